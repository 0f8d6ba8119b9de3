/- The framework: an abstract run of the code over typed data, and that the machine does as it says. Part 3. -/
import Derived.Shelf.SlSortCmp.WholeK
import Derived.Shelf.SlSortCmp.NoneTotal
import Derived.OpenShut
import Derived.Carry
import Derived.ChangeAt
import Derived.ProofKit
import Derived.Lib.LazyBuf
import Derived.Shelf.Spec.SlicesInsertGrow
import Derived.Test.YtoikjekpckhgeaaGreatFw1
import Derived.Test.YtoikjekpckhgeaaGreatFw2
set_option linter.unusedVariables false
set_option linter.unusedSimpArgs false
set_option linter.unusedSectionVars false
section
/- A list of functions of which all is promised. -/
namespace Go.Proofs.YtoikjekpckhgeaaGreat.Pal
open Go
variable [MonoC]
variable {P : Program}
def Fns (P : Program) : List (Nat × Entry) → Prop
  | [] => True
  | (f, e) :: r => CallOK P f e ∧ Fns P r
theorem fns_ok : ∀ {l : List (Nat × Entry)}, Fns P l → ∀ f e, lkN l f = some e → CallOK P f e
  | [], _, _, _, h => by simp [lkN] at h
  | (g, e') :: r, ⟨h1, h2⟩, f, e, h => by
    simp only [lkN] at h
    cases hb : Nat.beq g f with
    | true =>
      rw [hb] at h
      simp only [cond_true, Option.some.injEq] at h
      have := beq_nat.1 hb
      subst this; subst h; exact h1
    | false => rw [hb] at h; exact fns_ok h2 f e h
/-- Where nothing else is said, nothing is told of the answers drawn. -/
instance (priority := low) monoOff : MonoC := ⟨False⟩
end Go.Proofs.YtoikjekpckhgeaaGreat.Pal
end
section
/- Plain facts about what is reckoned with data. -/
namespace Go.Proofs.YtoikjekpckhgeaaGreat.Pal
open Go
theorem br_true {α : Type} (x y : Option α) : br true x y = x := rfl
theorem br_false {α : Type} (x y : Option α) : br false x y = y := rfl
theorem br_ite {α : Type} (b : Bool) (x y : Option α) : br b x y = if b = true then x else y := by cases b <;> rfl
theorem bnd_some {α β : Type} (a : α) (f : α → Option β) : bnd (some a) f = f a := rfl
theorem wrap_i64 {n : Int} (h1 : -(2 : Int) ^ 63 ≤ n) (h2 : n < 2 ^ 63) : IntKind.wrap .i64 n = n := by
  have e1 : ((2 : Int) ^ 63) = 9223372036854775808 := by decide
  rw [e1] at h1 h2
  simp only [IntKind.wrap, IntKind.signed, IntKind.bits]
  simp
  omega
theorem iadd_nat {i : Nat} (h : i < 4611686018427387904) : iadd .i64 (i : Int) 1 = ((i + 1 : Nat) : Int) := by
  have e1 : ((2 : Int) ^ 63) = 9223372036854775808 := by decide
  show IntKind.wrap .i64 ((i : Int) + 1) = _
  rw [wrap_i64 (by rw [e1]; omega) (by rw [e1]; omega)]
  omega
theorem iadd_0 {i : Nat} (h : i < 4611686018427387904) : iadd .i64 (i : Int) 1 = ((i + 1 : Nat) : Int) := iadd_nat h
theorem ilt_nat (i : Nat) {α : Type} (xs : List α) : ilt (i : Int) (ilen xs) = decide (i < xs.length) := by simp [ilt, ilen]
theorem ilt_nn (i j : Nat) : ilt (i : Int) (j : Int) = decide (i < j) := by simp [ilt]
theorem inL_nat (i : Nat) {α : Type} (xs : List α) : inL (i : Int) xs = decide (i < xs.length) := by simp [inL]
theorem inB_nat (i n : Nat) : inB (i : Int) n = decide (i < n) := by simp [inB]
theorem natOf_nat (i : Nat) : natOf (i : Int) = i := rfl
theorem ieq_dec (a b : Int) : ieq a b = decide (a = b) := by simp [ieq]; rfl
theorem ieq_len {α β : Type} (xs : List α) (ys : List β) : ieq (ilen xs) (ilen ys) = decide (xs.length = ys.length) := by
  rw [ieq_dec]; simp only [ilen]; congr 1; exact propext ⟨fun h => by omega, fun h => by omega⟩
theorem bnot_dec (p : Prop) [Decidable p] : bnot (decide p) = decide (¬ p) := by simp [bnot]
theorem seq_dec (a b : List UInt8) : seq a b = decide (a = b) := by
  simp only [seq]; by_cases h : a = b <;> simp [h]
theorem rd_at' {e : Ty} {xs : List e.D} {i : Nat} (h : i < xs.length) : rd e xs i = xs[i] := by simp [rd, List.getD, h]
theorem arrEq_iff {α : Type} {f : α → α → Bool} (hf : ∀ x y, f x y = true ↔ x = y) : ∀ xs ys : List α, arrEq f xs ys = true ↔ xs = ys
  | [], [] => by simp [arrEq]
  | [], y :: ys => by simp [arrEq]
  | x :: xs, [] => by simp [arrEq]
  | x :: xs, y :: ys => by
    have ih := arrEq_iff hf xs ys
    simp only [arrEq, Bool.and_eq_true, beq_iff_eq] at ih
    simp only [arrEq, List.length_cons, List.zip_cons_cons, List.all_cons, Bool.and_eq_true, beq_iff_eq, hf, List.cons.injEq, Nat.add_right_cancel_iff]
    rw [← ih]
    exact ⟨fun ⟨a, b, c⟩ => ⟨b, a, c⟩, fun ⟨b, a, c⟩ => ⟨a, b, c⟩⟩
theorem deq_iff : ∀ (τ : Ty), τ.hasEq0 = true → ∀ x y : τ.D, deq τ x y = true ↔ x = y
  | .int k, _, x, y => by show ieq x y = true ↔ x = y; simp [ieq]
  | .bool, _, x, y => by show beqB x y = true ↔ x = y; simp [beqB]
  | .str, _, x, y => by show seq x y = true ↔ x = y; simp [seq]
  | .slc e, h, _, _ => by simp [Ty.hasEq0] at h
  | .arr n e, h, x, y => arrEq_iff (deq_iff e h) x y
  | .pair a b, h, x, y => by
    simp only [Ty.hasEq0, Bool.and_eq_true] at h
    show (deq a x.1 y.1 && deq b x.2 y.2) = true ↔ x = y
    rw [Bool.and_eq_true, deq_iff a h.1, deq_iff b h.2]
    exact ⟨fun ⟨h1, h2⟩ => Prod.ext h1 h2, fun h => by rw [h]; exact ⟨rfl, rfl⟩⟩
/-- 'All from i on': one step. -/
theorem all_step {α : Type} {xs : List α} {i : Nat} (h : i < xs.length) (p : α → Bool) : (xs.drop i).all p = (p xs[i] && (xs.drop (i + 1)).all p) := by
  rw [List.drop_eq_getElem_cons h, List.all_cons]
theorem all_end {α : Type} {xs : List α} {i : Nat} (h : xs.length ≤ i) (p : α → Bool) : (xs.drop i).all p = true := by rw [List.drop_eq_nil_of_le h]; rfl
/-- All pairs, from i on. -/
def zall {α β : Type} (p : α → β → Bool) (xs : List α) (ys : List β) : Bool := (xs.zip ys).all fun q => p q.1 q.2
theorem zall_step {α β : Type} {xs : List α} {ys : List β} {i : Nat} (h : i < xs.length) (h' : i < ys.length) (p : α → β → Bool) :
    zall p (xs.drop i) (ys.drop i) = (p xs[i] ys[i] && zall p (xs.drop (i + 1)) (ys.drop (i + 1))) := by
  rw [List.drop_eq_getElem_cons h, List.drop_eq_getElem_cons h']; rfl
theorem zall_end {α β : Type} {xs : List α} {ys : List β} {i : Nat} (h : xs.length ≤ i) (p : α → β → Bool) : zall p (xs.drop i) (ys.drop i) = true := by
  rw [List.drop_eq_nil_of_le h]; rfl
theorem zall_eq {α : Type} [DecidableEq α] : ∀ (xs ys : List α), xs.length = ys.length → zall (fun x y => decide (x = y)) xs ys = decide (xs = ys)
  | [], [], _ => by simp [zall]
  | [], y :: ys, h => by simp at h
  | x :: xs, [], h => by simp at h
  | x :: xs, y :: ys, h => by
    have ih := zall_eq xs ys (by simpa using h)
    have : zall (fun x y => decide (x = y)) (x :: xs) (y :: ys) = (decide (x = y) && zall (fun x y => decide (x = y)) xs ys) := rfl
    rw [this, ih, ← Bool.decide_and]
    congr 1; simp
theorem zall_swap {α : Type} {p : α → α → Bool} {q : α → α → Bool} (h : ∀ x y, p x y = q y x) : ∀ (xs ys : List α), zall p xs ys = zall q ys xs
  | [], [] => rfl
  | [], y :: ys => rfl
  | x :: xs, [] => rfl
  | x :: xs, y :: ys => by
    show (p x y && zall p xs ys) = (q y x && zall q ys xs)
    rw [h, zall_swap h xs ys]
theorem zall_refl {α : Type} {p : α → α → Bool} (h : ∀ x, p x x = true) : ∀ (xs : List α), zall p xs xs = true
  | [] => rfl
  | x :: xs => by
    show (p x x && zall p xs xs) = true
    rw [h, zall_refl h xs]; rfl
theorem deq_dec {τ : Ty} [DecidableEq τ.D] (h : τ.hasEq0 = true) (x y : τ.D) : deq τ x y = decide (x = y) := by
  have := deq_iff τ h x y
  by_cases e : x = y
  · simp [e, (deq_iff τ h y y).2 rfl]
  · simp [e]; cases hd : deq τ x y with
    | false => rfl
    | true => exact absurd (this.1 hd) e
end Go.Proofs.YtoikjekpckhgeaaGreat.Pal
end
section
/- Loops of plain equations: what they come to. -/
namespace Go.Proofs.YtoikjekpckhgeaaGreat.Pal
open Go
/-- A loop that goes up to N, and comes to r. -/
theorem loop_up {ρ : Type} (N : Nat) (L : Nat → Nat → Option ρ) (r : Option ρ) (hs : ∀ n i, i < N → L (n + 1) i = L n (i + 1)) (he : ∀ n, L (n + 1) N = r) : ∀ n i, i ≤ N → N < n + i → L n i = r
  | 0, i, h, h' => by omega
  | n + 1, i, h, h' => by
    by_cases hi : i < N
    · rw [hs n i hi]; exact loop_up N L r hs he n (i + 1) (by omega) (by omega)
    · have : i = N := by omega
      subst this; exact he n
/-- A loop that asks whether all are such. -/
theorem loop_all (N : Nat) (L : Nat → Nat → Option Bool) (p : Nat → Prop) (hs : ∀ n i, i < N → (p i ∧ L (n + 1) i = L n (i + 1)) ∨ (¬ p i ∧ L (n + 1) i = some false)) (e : Option Bool) (q : Prop) (hq : ∃ b, e = some b ∧ (b = true ↔ q)) (he : ∀ n, L (n + 1) N = e) :
    ∀ n i, i ≤ N → N < n + i → ∃ b, L n i = some b ∧ (b = true ↔ (∀ j, i ≤ j → j < N → p j) ∧ q)
  | 0, i, h, h' => by omega
  | n + 1, i, h, h' => by
    by_cases hi : i < N
    · rcases hs n i hi with ⟨h1, h2⟩ | ⟨h1, h2⟩
      · obtain ⟨b, hb, hbi⟩ := loop_all N L p hs e q hq he n (i + 1) (by omega) (by omega)
        refine ⟨b, h2.trans hb, hbi.trans ⟨fun hh => ⟨fun j h3 h4 => ?_, hh.2⟩, fun hh => ⟨fun j h3 h4 => hh.1 j (by omega) h4, hh.2⟩⟩⟩
        by_cases ej : j = i
        · subst ej; exact h1
        · exact hh.1 j (by omega) h4
      · exact ⟨false, h2, ⟨fun hh => (by cases hh), fun hh => absurd (hh.1 i (Nat.le_refl _) hi) h1⟩⟩
    · have : i = N := by omega
      subst this
      obtain ⟨b, hb, hbi⟩ := hq
      exact ⟨b, (he n).trans hb, hbi.trans ⟨fun hh => ⟨fun j h3 h4 => by omega, hh⟩, fun hh => hh.2⟩⟩
/-- The same, and then true. -/
theorem loop_all' (N : Nat) (L : Nat → Nat → Option Bool) (p : Nat → Prop) (hs : ∀ n i, i < N → (p i ∧ L (n + 1) i = L n (i + 1)) ∨ (¬ p i ∧ L (n + 1) i = some false)) (he : ∀ n, L (n + 1) N = some true) (n i : Nat) (h : i ≤ N) (h' : N < n + i) :
    ∃ b, L n i = some b ∧ (b = true ↔ ∀ j, i ≤ j → j < N → p j) := by
  obtain ⟨b, hb, hbi⟩ := loop_all N L p hs (some true) True ⟨true, rfl, by simp⟩ he n i h h'
  exact ⟨b, hb, by rw [hbi]; simp⟩
/-- A loop that looks for the first that is such. -/
theorem loop_find {ρ : Type} (N : Nat) (L : Nat → Nat → Option ρ) (p : Nat → Bool) (r : Nat → Option ρ) (z : Option ρ) (hs : ∀ n i, i < N → L (n + 1) i = if p i then r i else L n (i + 1)) (he : ∀ n, L (n + 1) N = z) :
    ∀ n i, i ≤ N → N < n + i → (∃ j, i ≤ j ∧ j < N ∧ p j = true ∧ (∀ q, i ≤ q → q < j → p q = false) ∧ L n i = r j) ∨ ((∀ j, i ≤ j → j < N → p j = false) ∧ L n i = z)
  | 0, i, h, h' => by omega
  | n + 1, i, h, h' => by
    by_cases hi : i < N
    · have hh := hs n i hi
      by_cases hp : p i = true
      · rw [if_pos hp] at hh
        exact .inl ⟨i, Nat.le_refl _, hi, hp, fun q h1 h2 => by omega, hh⟩
      · rw [if_neg hp] at hh
        rcases loop_find N L p r z hs he n (i + 1) (by omega) (by omega) with ⟨j, h1, h2, h3, h4, h5⟩ | ⟨h1, h2⟩
        · refine .inl ⟨j, by omega, h2, h3, fun q h6 h7 => ?_, hh.trans h5⟩
          by_cases e : q = i
          · subst e; simpa using hp
          · exact h4 q (by omega) h7
        · refine .inr ⟨fun j h3 h4 => ?_, hh.trans h2⟩
          by_cases e : j = i
          · subst e; simpa using hp
          · exact h1 j (by omega) h4
    · have : i = N := by omega
      subst this
      exact .inr ⟨fun j h1 h2 => by omega, he n⟩
/-- A loop that asks whether two rows are the same. -/
theorem loop_same {α : Type} [DecidableEq α] (xs ys : List α) (hl : xs.length = ys.length) (L : Nat → Nat → Option Bool) (hs : ∀ n i (h : i < xs.length) (h' : i < ys.length), L (n + 1) i = if xs[i] = ys[i] then L n (i + 1) else some false) (he : ∀ n, L (n + 1) xs.length = some true) (n : Nat) (h' : xs.length < n) : L n 0 = some (decide (xs = ys)) := by
  obtain ⟨b, hb, hbi⟩ := loop_all' xs.length L (fun i => xs[i]? = ys[i]?) (fun n i hi => by
    have hi' : i < ys.length := by omega
    have := hs n i hi hi'
    rw [List.getElem?_eq_getElem hi, List.getElem?_eq_getElem hi']
    by_cases e : xs[i] = ys[i]
    · rw [if_pos e] at this; exact .inl ⟨by rw [e], this⟩
    · rw [if_neg e] at this; exact .inr ⟨fun h => e (Option.some.inj h), this⟩) he n 0 (by omega) (by omega)
  rw [hb]; congr 1
  rw [Bool.eq_iff_iff, hbi, decide_eq_true_iff]
  constructor
  · intro h
    apply List.ext_getElem? ; intro i
    by_cases hi : i < xs.length
    · exact h i (by omega) hi
    · rw [List.getElem?_eq_none (by omega), List.getElem?_eq_none (by omega)]
  · intro h; subst h; intros; rfl
theorem br_dec {α : Type} (p : Prop) [Decidable p] (x y : Option α) : br (decide p) x y = if p then x else y := by
  by_cases h : p
  · rw [if_pos h, decide_eq_true h]; rfl
  · rw [if_neg h, decide_eq_false h]; rfl
theorem room_le {α β : Type} {xs : List α} {ys : List β} (h : xs.length + ys.length ≤ 4294967296) : room xs ys = true := decide_eq_true h
theorem piece_tail {α : Type} (x : α) (xs : List α) : piece (x :: xs) 1 (ilen (x :: xs)) = xs := by
  unfold piece ilen
  simp only [Int.toNat_natCast, List.take_length]
  rfl
theorem inS_tail {α : Type} (x : α) (xs : List α) : inS 1 (ilen (x :: xs)) (ilen (x :: xs)) = true := by
  have h : (1 : Int) ≤ ((x :: xs).length : Int) := by rw [List.length_cons]; omega
  show (decide ((0 : Int) ≤ 1) && decide ((1 : Int) ≤ ((x :: xs).length : Int)) && decide (((x :: xs).length : Int) ≤ ((x :: xs).length : Int))) = true
  rw [decide_eq_true h, decide_eq_true (Int.le_refl _)]; rfl
theorem inL0 {α : Type} (x : α) (xs : List α) : inL 0 (x :: xs) = true := by simp [inL]
theorem rd0 {e : Ty} (x : e.D) (xs : List e.D) : rd e (x :: xs) (natOf 0) = x := rfl
theorem ilt0 {α : Type} (xs : List α) : ilt 0 (ilen xs) = decide (0 < xs.length) := by simp [ilt, ilen]
theorem ieq0 {α : Type} (xs : List α) : ieq (ilen xs) 0 = decide (xs.length = 0) := by
  rw [ieq_dec]; simp only [ilen]; congr 1; exact propext ⟨fun h => by omega, fun h => by omega⟩
end Go.Proofs.YtoikjekpckhgeaaGreat.Pal
end
section
/- A call with plain data alone. -/
namespace Go.Proofs.YtoikjekpckhgeaaGreat.Pal
open Go Go.Sort
variable {P : Program} {X Y : Nat → Nat → Prop} {G0 G G' : Gh} {w0 w w' : World} {s : St} {a : Act} {c : Cx} {Q : Exit → Act → World → Prop}
/-- Who calls with plain data, and knows of no memory, finds it as it was. -/
theorem plain_call {g : Nat} {ce : Entry} {args : List V} {argv : List Value} {v : V} (hg : @CallOK ⟨True⟩ P g ce) (eg : ∀ args w, (callFunc g args).run P w = .ok (.enter g args) w) (hv : ce.val args [] = some (v, []))
    (hA : ∀ G, ArgsRep G w args argv []) : Calls P g argv.toArray w fun e' w' => (∃ G' y t, e' = .returned y ∧ TRep G' w' v y t) ∧ ∃ q os, w' = grow (w.drewN q) os := by
  letI : MonoC := ⟨True⟩
  let G : Gh := { I := fun _ _ => none, O := fun _ _ => none, ρ := fun _ => (0, 0) }
  have hdo := hg.ok args [] v [] hv (fun _ _ => False) G w argv [] [] ⟨fun _ _ _ h => (by cases h), fun _ _ _ h => (by cases h), fun _ _ _ h => (by cases h)⟩ (fun _ _ _ h => (by cases h)) (hA G) rfl (fun g => by simp) (fun g hg => by simp at hg)
  rcases hdo with ⟨_, h⟩ | ⟨v', w', h, _⟩
  · refine Calls.mono h fun e' w' he => ?_
    cases e' with
    | returned y =>
      obtain ⟨G', hE, _, _, tV, tM, tX, hT, _⟩ := he
      refine ⟨⟨G', y, tV, rfl, hT⟩, w'.drawn - w.drawn, w'.heap.extract w.heap.size w'.heap.size, ?_⟩
      have hheap : w'.heap = w.heap ++ w'.heap.extract w.heap.size w'.heap.size := by
        apply Array.ext_getElem?
        intro i
        rcases Nat.lt_or_ge i w.heap.size with hi | hi
        · rw [Array.getElem?_append_left hi]
          rcases hE.evo.block i hi with h | ⟨c, c', t, fr, h1, h2, h3, h4⟩
          · exact h
          · have : c' = c := Array.ext_getElem? fun j => h4 j (fun h => h)
            rw [h1, h2, this]
        · rw [Array.getElem?_append_right hi, Array.getElem?_extract]
          split
          · congr 1; omega
          · rename_i h5
            rw [Array.getElem?_eq_none]
            have := hE.evo.size
            rcases Nat.lt_or_ge i w'.heap.size with h6 | h6
            · exfalso; apply h5; omega
            · exact h6
      have e1 := hE.evo.os; have e2 := hE.evo.tape; have e3 := hE.evo.output; have e4 := hE.evo.drawn trivial
      unfold grow World.drewN
      cases w' with
      | mk h1 t1 d1 o1 p1 =>
        cases w with
        | mk h0 t0 d0 o0 p0 =>
          simp only at e1 e2 e3 e4 hheap ⊢
          subst e1; subst e2; subst e3
          have : d0 + (d1 - d0) = d1 := by omega
          rw [this, ← hheap]
    | _ => exact he.elim
  · rw [eg] at h; cases h
end Go.Proofs.YtoikjekpckhgeaaGreat.Pal
end
section
/- The row: what comes in is data; what the law's run says, the statement says. -/
namespace Go.Proofs.YtoikjekpckhgeaaGreat.Pal
open Go
variable [MonoC]
variable {H : Type} {enc : TypeId × Value → H} {P : Program} {W : World} {base : Nat} {spare : Nat → Bool} {held : Bool}

/-- All memory, as it lies. -/
def img (W : World) : Im := fun b o => W.cell? ⟨b, o, none⟩
/-- Numbers fit their kinds; nothing is longer than may be. -/
def Fits : (τ : Ty) → τ.D → Prop
  | .int k, n => (Lit.int k n).wf = true
  | .bool, _ => True
  | .str, s => s.length ≤ maxLen
  | .slc e, xs => List.length xs ≤ maxLen ∧ ∀ x ∈ xs, Fits e x
  | .arr n e, xs => List.length xs = n ∧ ∀ x ∈ xs, Fits e x
  | .pair a b, x => Fits a x.1 ∧ Fits b x.2
theorem cellsOf_ty {n : Nat} {T : TypeId} {τ : Ty} (h : tyB P n T τ = true) : P.cellsOf T = τ.cells := by
  obtain ⟨i, hi, hs, _⟩ := (tyB_i h).info
  simp [Program.cellsOf, hi, hs]
theorem pick_all {α β : Type} {f : Nat → Option β} {R : Nat → α → Prop} : ∀ (n : Nat), (∀ i, i < n → ∃ x, R i x) → ∃ xs : List α, xs.length = n ∧ ∀ i x, xs[i]? = some x → R i x
  | 0, _ => ⟨[], rfl, fun i x h => by simp at h⟩
  | n + 1, h => by
    obtain ⟨xs, h1, h2⟩ := pick_all (f := f) n fun i hi => h i (by omega)
    obtain ⟨x, hx⟩ := h n (by omega)
    refine ⟨xs ++ [x], by simp [h1], fun i y hy => ?_⟩
    rcases Nat.lt_or_ge i n with hi | hi
    · rw [List.getElem?_append_left (by omega)] at hy; exact h2 i y hy
    · have : i = n := by have := (List.getElem?_eq_some_iff.1 hy).1; simp at this; omega
      subst this
      rw [List.getElem?_append_right (by omega)] at hy
      simp [h1] at hy; subst hy; exact hx
theorem all2_seg {α : Type} {R : α → List Value → Prop} {sz : Nat} : ∀ (xs : List α) (cs : List Value), cs.length = xs.length * sz → (∀ i x, xs[i]? = some x → R x ((cs.drop (i * sz)).take sz)) → All2 R xs cs
  | [], cs, h, _ => List.eq_nil_of_length_eq_zero (by simpa using h)
  | x :: xs, cs, h, hR => by
    have h0 := hR 0 x rfl
    simp only [Nat.zero_mul, List.drop_zero] at h0
    refine ⟨cs.take sz, cs.drop sz, (List.take_append_drop sz cs).symm, h0, all2_seg (sz := sz) xs (cs.drop sz) (by simp [h, Nat.add_mul]) fun i y hy => ?_⟩
    have := hR (i + 1) y (by simpa using hy)
    rw [List.drop_drop]
    rwa [show sz + i * sz = (i + 1) * sz by rw [Nat.add_mul]; omega]
theorem flds_open {fuel : Nat} (IH : ∀ (τ : Ty) (n : Nat) (T : TypeId) (cs : List Value) (y : DataW H × List MemPlace), tyB P n T τ = true → DataW.trod enc P W base spare held fuel T cs = some y → ∃ x, DRep (img W) τ x cs ∧ Fits τ x) {n : Nat} {cs : List Value} :
    ∀ (fs : List Field) (o : Nat) (τ : Ty), flds (tyB P n) fs o τ = true → (∀ f ∈ fs, ∃ y, DataW.trod enc P W base spare held fuel f.type ((cs.drop f.offset).take (P.cellsOf f.type)) = some y) →
      ∃ x, DRep (img W) τ x ((cs.drop o).take τ.cells) ∧ Fits τ x
  | [], _, _, h, _ => by simp [flds] at h
  | [g], o, τ, h, ht => by
    simp only [flds, Bool.and_eq_true] at h
    obtain ⟨⟨h1, h2⟩, _⟩ := h
    obtain ⟨y, hy⟩ := ht g (by simp)
    rw [beq_nat.1 h1, cellsOf_ty h2] at hy
    exact IH τ n g.type _ y h2 hy
  | g :: g' :: r, o, τ, h, ht => by
    cases τ with
    | pair a b =>
      simp only [flds, Bool.and_eq_true] at h
      obtain ⟨⟨⟨h1, h2⟩, _⟩, h4⟩ := h
      obtain ⟨y, hy⟩ := ht g (by simp)
      rw [beq_nat.1 h1, cellsOf_ty h2] at hy
      obtain ⟨x1, k1, k2⟩ := IH a n g.type _ y h2 hy
      obtain ⟨x2, k3, k4⟩ := flds_open IH (g' :: r) (o + a.cells) b h4 fun f hf => ht f (by simp at hf ⊢; exact .inr hf)
      refine ⟨(x1, x2), ⟨_, _, ?_, k1, k3⟩, k2, k4⟩
      rw [← List.drop_drop]
      show List.take (a.cells + b.cells) (cs.drop o) = _
      rw [List.take_add]
    | _ => simp [flds] at h
theorem trod_open : ∀ (fuel : Nat) (τ : Ty) (n : Nat) (T : TypeId) (cs : List Value) (y : DataW H × List MemPlace), tyB P n T τ = true → DataW.trod enc P W base spare held fuel T cs = some y → ∃ x, DRep (img W) τ x cs ∧ Fits τ x := by
  intro fuel
  induction fuel with
  | zero => intro τ n T cs y _ h; simp [DataW.trod] at h
  | succ fuel IH =>
    intro τ n T cs y ht h
    cases τ with
    | int k =>
      obtain ⟨z, h1, _, h3⟩ := DataW.trod_int (tyB_int ht) h
      exact ⟨z, h1, h3⟩
    | bool =>
      obtain ⟨z, h1, _⟩ := DataW.trod_bool (tyB_bool ht) h
      exact ⟨z, h1, trivial⟩
    | str =>
      obtain ⟨z, h1, _, h3⟩ := DataW.trod_string (tyB_str ht) h
      refine ⟨z.data.toList, by rw [h1]; simp [DRep], ?_⟩
      show z.data.toList.length ≤ maxLen
      have := h3
      simp only [ByteArray.size] at this
      simpa using this
    | slc e =>
      obtain ⟨E, m, hu, hE⟩ := tyB_slc ht
      have hsz := cellsOf_ty hE
      have hpos := (tyB_i hE).pos
      rcases DataW.trod_slice hu h with ⟨h1, _⟩ | ⟨a, len, cap, elems, rest, n', hf, h1, _, _, hlc, hcm, hel, hels, _⟩
      · exact ⟨[], ⟨none, 0, 0, h1, rfl, Nat.le_refl _, .inl rfl⟩, Nat.zero_le _, fun x hx => by cases hx⟩
      · have hf' : n' = fuel := by omega
        subst hf'
        have key : ∀ i, i < len → ∃ x : e.D, ∃ c, DRep (img W) e x c ∧ Fits e x ∧ W.cells? base (a.add (i * e.cells)) e.cells = some c := by
          intro i hi
          have := hels i hi
          rw [List.getElem?_eq_getElem (by omega), Option.bind_eq_some_iff] at this
          obtain ⟨c, hc, ht'⟩ := this
          obtain ⟨x, k1, k2⟩ := IH e m E c _ hE ht'
          exact ⟨x, c, k1, k2, by rw [← hsz]; exact hc⟩
        obtain ⟨xs, hl, hxs⟩ := pick_all (f := fun _ => (none : Option Nat)) (R := fun i (x : e.D) => ∃ c, DRep (img W) e x c ∧ Fits e x ∧ W.cells? base (a.add (i * e.cells)) e.cells = some c) len key
        refine ⟨xs, ⟨some a, len, cap, h1, hl, hlc, ?_⟩, ?_, fun x hx => ?_⟩
        · rcases Nat.eq_zero_or_pos len with h0 | h0
          · exact .inl (List.eq_nil_of_length_eq_zero (by omega))
          · refine .inr ⟨a.block, a.off, ?_, fun i x hx => ?_⟩
            · obtain ⟨x, c, _, _, hc⟩ := key 0 h0
              have := (World.cells?_some hc).2.2 0 hpos
              have hlc := (World.cells?_some hc).2.1
              simp only [Nat.zero_mul, Addr.add, if_true] at this
              rw [List.getElem?_eq_getElem (by omega)] at this
              have hs := World.cell?_spot this
              cases a; simp at hs; subst hs; rfl
            · obtain ⟨c, k1, _, hc⟩ := hxs i x hx
              obtain ⟨_, h2, h3⟩ := World.cells?_some hc
              refine ⟨c, k1, fun j v hj => ?_⟩
              have hjl : j < e.cells := by rw [← h2]; exact (List.getElem?_eq_some_iff.1 hj).1
              have := h3 j hjl
              rw [hj] at this
              have hs := World.cell?_spot this
              show W.cell? ⟨a.block, a.off + i * e.cells + j, none⟩ = some v
              rw [← this]
              congr 1
              have hb : ((a.add (i * e.cells)).add j).block = a.block ∧ ((a.add (i * e.cells)).add j).off = a.off + i * e.cells + j := by
                unfold Addr.add; split <;> split <;> simp_all
              cases hh : (a.add (i * e.cells)).add j with
              | mk b' o' s' => rw [hh] at hb hs; simp at hb hs; rw [hb.1, hb.2, hs]
        · show List.length xs ≤ maxLen; rw [hl]; omega
        · obtain ⟨i, hi⟩ := List.getElem?_of_mem hx
          obtain ⟨c, _, k2, _⟩ := hxs i x hi
          exact k2
    | arr q e =>
      obtain ⟨E, m, hu, hE⟩ := tyB_arr ht
      have hsz := cellsOf_ty hE
      have hszT := cellsOf_ty ht
      obtain ⟨ys, m', hf, _, hlen, hyl, hys⟩ := DataW.trod_array hu h
      have hf' : m' = fuel := by omega
      subst hf'
      have key : ∀ i, i < q → ∃ x : e.D, DRep (img W) e x ((cs.drop (i * e.cells)).take e.cells) ∧ Fits e x := by
        intro i hi
        have := hys i hi
        rw [List.getElem?_eq_getElem (by omega), hsz] at this
        exact IH e m E _ _ hE this
      obtain ⟨xs, hl, hxs⟩ := pick_all (f := fun _ => (none : Option Nat)) (R := fun i (x : e.D) => DRep (img W) e x ((cs.drop (i * e.cells)).take e.cells) ∧ Fits e x) q key
      refine ⟨xs, ⟨hl, all2_seg xs cs ?_ fun i x hx => (hxs i x hx).1⟩, hl, fun x hx => ?_⟩
      · rw [hlen, hszT, hl]; rfl
      · obtain ⟨i, hi⟩ := List.getElem?_of_mem hx
        exact (hxs i x hi).2
    | pair a b =>
      obtain ⟨fs, m, hu, _, hfl, _⟩ := tyB_pair ht
      have hszT := cellsOf_ty ht
      obtain ⟨ys, m', hf, _, hlen, hyl, hys⟩ := DataW.trod_struct hu h
      have hf' : m' = fuel := by omega
      subst hf'
      obtain ⟨x, k1, k2⟩ := flds_open (cs := cs) IH fs.toList 0 (.pair a b) hfl fun f hf => by
        obtain ⟨i, hi⟩ := List.getElem?_of_mem hf
        have hi' : fs[i]? = some f := by simpa using hi
        have := hys i f hi'
        rw [List.getElem?_eq_getElem (by rw [hyl]; exact (Array.getElem?_eq_some_iff.1 hi').1)] at this
        exact ⟨_, this⟩
      rw [List.drop_zero, List.take_of_length_le (by rw [hlen, hszT]; exact Nat.le_refl _)] at k1
      exact ⟨x, k1, k2⟩
/-- All memory, and what is known of it. -/
def gh0 (W : World) : Gh := { I := img W, O := fun _ _ => none, ρ := fun _ => (0, 0) }
theorem arg_open {r : Reach} {b0 : Nat} {n : Nat} {T : TypeId} {τ : Ty} {v : Value} {d : DataW H} {ps : List MemPlace} (ht : tyB P n T τ = true) (hval : Value.okWide P W r b0 T v) (hd : DataW.Trod enc P W base spare held T v d ps) :
    ∃ x, TRep (gh0 W) W (.dat τ x) v [] ∧ Fits τ x := by
  obtain ⟨fuel, hf⟩ := hd
  obtain ⟨x, h1, h2⟩ := trod_open fuel τ n T _ _ ht hf
  refine ⟨x, ⟨v.cells.toList, ⟨h1, rfl⟩, ?_⟩, h2⟩
  have scalar : (∀ cs, v ≠ .agg cs) → v.cells.toList = [v] := by
    intro h
    cases v <;> first | rfl | exact absurd rfl (h _)
  cases τ with
  | int k =>
    refine scalar fun cs e => ?_
    subst e; simp [Value.okWide, tyB_int ht, Cell.okWide, Cell.ok] at hval
  | bool =>
    refine scalar fun cs e => ?_
    subst e; simp [Value.okWide, tyB_bool ht, Cell.okWide, Cell.ok] at hval
  | str =>
    refine scalar fun cs e => ?_
    subst e; simp [Value.okWide, tyB_str ht, Cell.okWide, Cell.ok] at hval
  | slc e =>
    obtain ⟨E, m, hu, _⟩ := tyB_slc ht
    refine scalar fun cs e => ?_
    subst e; simp [Value.okWide, hu, Cell.okWide, Cell.ok] at hval
  | arr q e =>
    obtain ⟨E, m, hu, _⟩ := tyB_arr ht
    simp only [Value.okWide, hu] at hval
    obtain ⟨cs, rfl, _⟩ := hval
    show Value.agg cs = .agg cs.toList.toArray; simp
  | pair a b =>
    obtain ⟨fs, m, hu, _⟩ := tyB_pair ht
    simp only [Value.okWide, hu] at hval
    obtain ⟨cs, rfl, _⟩ := hval
    show Value.agg cs = .agg cs.toList.toArray; simp
theorem wf0 (W : World) : Wf (gh0 W) W := ⟨fun _ _ _ h => h, fun _ _ _ _ => rfl, fun _ _ _ h => by cases h⟩
/-- A law that answers true. -/
theorem law_calls {f : FuncId} {fn : Func} {code : Code} {e : Entry} {args : List V} {argv : List Value} (hOK : CallOK P f e) (hf : P.funcs[f]? = some fn) (hb : fn.body = some code) (hnm : (fn.name == "runtime.NumGoroutine") = false)
    (hv : e.val args [] = some (.dat .bool true, [])) (hA : ArgsRep (gh0 W) W args argv []) : Calls P f argv.toArray W fun e w' => e = .returned (.bool true) ∧ RowKit.Below W.heap.size W w' := by
  have hdo := hOK.ok args [] _ _ hv (fun _ _ => False) (gh0 W) W argv [] [] (wf0 W) (fun _ _ _ h => by cases h) hA rfl (fun g => by simp) (fun g hg => by simp at hg)
  have hen : (callFunc f argv.toArray).run P W = .ok (.enter f argv.toArray) W := by
    have hnm' : ¬ fn.name = "runtime.NumGoroutine" := by simpa using hnm
    unfold callFunc
    simp [hf, hnm', hb]
  rcases hdo with ⟨_, h⟩ | ⟨v, w', h, _⟩
  · refine Calls.mono h fun e w' he => ?_
    cases e with
    | returned v =>
      obtain ⟨G', hE, _, _, tV, tM, tX, hT, _⟩ := he
      refine ⟨by rw [hT.dat_bool], hE.evo.os, hE.evo.tape, hE.evo.output, hE.evo.size, fun k hk => ?_⟩
      rcases hE.evo.block k hk with h | ⟨c, c', t, fr, h1, h2, h3, h4⟩
      · exact h
      · have : c' = c := Array.ext_getElem? fun j => h4 j (fun h => h)
        rw [h1, h2, this]
    | _ => exact he.elim
  · rw [hen] at h; cases h
theorem law_calls' {f : FuncId} {fn : Func} {code : Code} {σ : Sg} {F : σ.In → Option σ.Out} {args : List V} {argv : List Value} {x : σ.In} {r : σ.Out} (hOK : CallOK P f (σ.entry F)) (hf : P.funcs[f]? = some fn) (hb : fn.body = some code) (hnm : (fn.name == "runtime.NumGoroutine") = false)
    (hp : Ar.pull σ.args 0 args = some args) (hd : Dl.dec (arTys σ.args ++ σ.objs) args = some x) (hF : F x = some r) (hv : encOutV σ.res σ.objs.length σ.outs r = .dat .bool true) (ho : encOutO σ.res σ.outs r = [])
    (hA : ArgsRep (gh0 W) W args argv []) : Calls P f argv.toArray W fun e w' => e = .returned (.bool true) ∧ RowKit.Below W.heap.size W w' := by
  refine law_calls hOK hf hb hnm ?_ hA
  unfold Entry.val
  show ((Ar.pull σ.args 0 args).bind fun ds => (Dl.dec (arTys σ.args ++ σ.objs) (ds ++ [])).bind fun x => bnd (F x) fun r => some (encOutV σ.res σ.objs.length σ.outs r, encOutO σ.res σ.outs r)) = _
  rw [hp]
  simp only [Option.bind_some, List.append_nil]
  rw [hd]
  simp only [Option.bind_some]
  rw [hF]
  simp only [bnd]
  rw [hv, ho]
end Go.Proofs.YtoikjekpckhgeaaGreat.Pal
end
section
/- slices.Clone: a list of the call's own. -/
namespace Go.Proofs.YtoikjekpckhgeaaGreat.Pal
open Go
variable [MonoC]
variable {P : Program} {X Y : Nat → Nat → Prop} {G0 G G' : Gh} {w0 w w' : World} {s : St} {a : Act} {c : Cx} {Q : Exit → Act → World → Prop}

/-- The run comes to one state. -/
theorem run_to (hT : TT P c) (hC : ∀ f e, lkN c.fns f = some e → CallOK P f e) (hm : P.follows .mixedOrders = true) {N : Nat} {ds : List Deferred} {code : Code} {s1 : St} (hok : okCode c N code = true)
    (h : run c code s (fun e s => match e with | .normal => some s | _ => none) = some s1) (hR : RS X G0 w0 G s a.tmps w) (hN : a.tmps.size = N) (hd : a.defers = ds)
    (hQ : ∀ a' w' G', RS X G0 w0 G' s1 a'.tmps w' → a'.tmps.size = N → a'.defers = ds → Q .normal a' w') : code.wp P Q a w := by
  refine run_sound (N := N) (ds := ds) hT hC hm code hok (fun e s => match e with | .normal => some s | _ => none) Q s a w G ?_ h hR hN hd
  intro e a' w' G' s' h1 h2 h3 h4
  cases e with
  | normal => injection h4 with h4; subst h4; exact hQ a' w' G' h1 h2 h3
  | _ => cases h4
abbrev ed (i : Nat) (g : Ground) : Edge := { on := i, ground := g }
def cloneR0 (T : Nat) : Code := .region 0 #[{ dst := some 2, op := .assign (.const (.slice none 0 0)), type := T, pos := "slices.go:355", after := #[], guard := none }] false
def cloneOps (T B : Nat) : Array Oper := #[{ dst := some 3, op := .move (.tmp 0), type := T, pos := "slices.go:357", after := #[], guard := none },
          { dst := some 4, op := .binOp .eql T (.tmp 3) (.const (.slice none 0 0)) T, type := B, pos := "slices.go:357", after := #[ed 0 .data], guard := none }]
def cloneC (T : Nat) : Code := .cond (.tmp 4) (.seq (.region 2 #[{ dst := some 2, op := .assign (.const (.slice none 0 0)), type := T, pos := "slices.go:358", after := #[], guard := none }] false) .ret) .skip
def cloneR3 (T : Nat) : Code := .seq (.region 3 #[{ dst := some 5, op := .buildSlice T 0 #[], type := T, pos := "slices.go:362", after := #[], guard := none },
          { dst := some 6, op := .move (.tmp 0), type := T, pos := "slices.go:362", after := #[], guard := none },
          { dst := some 7, op := .call { callee := .builtin .append, args := #[.tmp 5, .tmp 6], argTypes := #[T, T] }, type := T, pos := "slices.go:362", after := #[ed 0 .data, ed 1 .data], guard := none },
          { dst := some 2, op := .assign (.tmp 7), type := T, pos := "slices.go:362", after := #[ed 2 .data, ed 2 .chain, ed 0 .phase, ed 1 .phase, ed 2 .phase], guard := none }] false) .ret
def cloneCode (T B : Nat) : Code := .seq (cloneR0 T) (.seq (.seq (.region 1 (cloneOps T B) false) (cloneC T)) (cloneR3 T))
def cloneCx (T : Nat) (e : Ty) : Cx := ⟨[(T, ⟨.slc e, 0⟩)], [], [], [(0, ⟨[0], [], [], [], 0, [], [], [], []⟩), (2, ⟨[2], [], [], [], 0, [], [], [], []⟩), (3, ⟨[2], [], [2, 3], [], 0, [], [], [], []⟩)], 0⟩
@[reducible] def cloneSg (e : Ty) : Sg := ⟨[.dat (.slc e)], [], .raw e, []⟩
@[reducible] def cloneOwn (e : Ty) : Sg := ⟨[.dat (.slc e)], [], .own e, []⟩
def toK : Ex → St → Option St
  | .normal, s => some s
  | _, _ => none
theorem clone_wp {T B N : Nat} {e : Ty} (hT : TT P (cloneCx T e)) (hty : (cloneCx T e).ty T = some (.slc e)) (hm : P.follows .mixedOrders = true) (hok : okCode (cloneCx T e) N (cloneCode T B) = true) {xs : List e.D} {tmps : Array Value} {α : Type} {K : Ex → St → Option α} {r : α}
    (hR : RS X G0 w0 G (st0 [.dat (.slc e) xs] []) tmps w) (hsz : tmps.size = N) (hL : Left X G0 w0 N [] K r Q)
    (h0 : run (cloneCx T e) (cloneR0 T) (st0 [.dat (.slc e) xs] []) toK = some ⟨[(0, .dat (.slc e) xs)], []⟩)
    (hnil : xs = [] → run (cloneCx T e) (cloneC T) ⟨[(4, .dat .bool true), (3, .dat (.slc e) xs), (0, .dat (.slc e) xs)], []⟩ (thenK (fun s' => run (cloneCx T e) (cloneR3 T) s' K) K) = some r)
    (hsome : run (cloneCx T e) (cloneC T) ⟨[(4, .dat .bool false), (3, .dat (.slc e) xs), (0, .dat (.slc e) xs)], []⟩ (thenK (fun s' => run (cloneCx T e) (cloneR3 T) s' K) K) = some r) :
    (cloneCode T B).wp P Q { tmps := tmps, defers := [] } w := by
  have hC : ∀ f e', lkN (cloneCx T e).fns f = some e' → CallOK P f e' := fun f e' h => by cases h
  obtain ⟨E, m, hu, _⟩ := tyB_slc (hT.ty hty).1
  have hok2 : okCode (cloneCx T e) N (cloneR0 T) = true ∧ (okCode (cloneCx T e) N (.region 1 (cloneOps T B) false) = true ∧ okCode (cloneCx T e) N (cloneC T) = true) ∧ okCode (cloneCx T e) N (cloneR3 T) = true := by
    unfold cloneCode at hok
    rw [okCode, Bool.and_eq_true] at hok
    rw [okCode, Bool.and_eq_true] at hok
    rw [okCode, Bool.and_eq_true] at hok
    exact hok
  obtain ⟨k0, ⟨k1, k2⟩, k3⟩ := hok2
  have hd34 : 3 < N ∧ 4 < N := by
    simp only [okCode, cloneOps, List.all_cons, Bool.and_eq_true] at k1
    exact ⟨Nat.le_of_ble_eq_true k1.1.1, Nat.le_of_ble_eq_true k1.1.2.1⟩
  unfold cloneCode
  refine wp_seq (run_sound hT hC hm (N := N) (ds := []) (cloneR0 T) k0 toK _ _ _ w G ?_ h0 hR hsz rfl)
  intro ex a1 w1 G1 s1 g1 g2 g3 g4
  cases ex with
  | exit i => cases g4
  | ret => cases g4
  | normal =>
    injection g4 with g4; subst g4
    show (Code.seq _ _).wp P Q a1 w1
    refine wp_seq (wp_seq (wp_region ?_))
    show wpOps P (cloneOps T B) _ [0, 1] a1 w1
    have hmv : stepO (cloneCx T e) false false { dst := some 3, op := .move (.tmp 0), type := T, pos := "slices.go:357", after := #[], guard := none } ⟨[(0, .dat (.slc e) xs)], []⟩ some = some ⟨[(3, .dat (.slc e) xs), (0, .dat (.slc e) xs)], []⟩ := rfl
    have s3 := stepO_sound (P := P) (Q := Exit.then ((cloneC T).wp P (Exit.then ((cloneR3 T).wp P Q) Q)) (Exit.then ((cloneR3 T).wp P Q) Q)) hT hC g1 hmv (fun t ht => by injection ht with ht; subst ht; show 3 < a1.tmps.size; rw [g2]; exact hd34.1)
    rw [wpOps_cons]
    unfold wpOp
    rw [show (cloneOps T B)[0]? = some { dst := some 3, op := .move (.tmp 0), type := T, pos := "slices.go:357", after := #[], guard := none } from rfl]
    simp only [Region.wanted, if_true]
    refine .inl (Oper.wp_mono (fun a2 w2 hN => ?_) s3)
    obtain ⟨G2, s2, f1, f2, f3, f4⟩ := hN
    injection f4 with f4; subst f4
    have hsz2 : a2.tmps.size = N := f2.trans g2
    obtain ⟨ts, hv3⟩ := f1.find (t := 3) (v := .dat (.slc e) xs) rfl trivial
    obtain ⟨ad, len, cap, hx, hl, hlc, hE⟩ := hv3.dat_slc
    have hx' : a2.eval (.tmp 3) = .slice ad len cap := hx
    have hop : (execOp a2.eval { dst := some 4, op := .binOp .eql T (.tmp 3) (.const (.slice none 0 0)) T, type := B, pos := "slices.go:357", after := #[ed 0 .data], guard := none }).run P w2 = .ok (.value (.bool ad.isNone)) w2 := by
      simp only [execOp, hx']
      refine runV ?_
      have hg := guard_plain (P := P) (w := w2) (op := .eql) (t := T) (x := .tmp 3) (y := .const (.slice none 0 0)) (u := .slice ad len cap) (v := .slice none 0 0) (fun cs ds h => by cases h.1) (fun h => by cases h.1)
      have hb := Go.run_eql_slice_nil (P := P) w2 T E ad len cap hu
      simp only [Sem.run_bind]
      first
        | (rw [show a2.eval (.const (.slice none 0 0)) = .slice none 0 0 from rfl, hg]; exact hb)
        | (show Result.andThen _ _ = _; rw [hg]; exact hb)
    show wpOps P (cloneOps T B) _ [1] a2 w2
    rw [wpOps_cons]
    unfold wpOp
    rw [show (cloneOps T B)[1]? = some { dst := some 4, op := .binOp .eql T (.tmp 3) (.const (.slice none 0 0)) T, type := B, pos := "slices.go:357", after := #[ed 0 .data], guard := none } from rfl]
    simp only [Region.wanted, if_true]
    refine .inl (Oper.wp_mono (fun a3 w3 hN => ?_) (wp_val (P := P) (Q := Exit.then ((cloneC T).wp P (Exit.then ((cloneR3 T).wp P Q) Q)) (Exit.then ((cloneR3 T).wp P Q) Q)) (K := some) (r := ⟨[(4, .dat .bool ad.isNone), (3, .dat (.slc e) xs), (0, .dat (.slc e) xs)], []⟩) hop (f1.withV (TRep.bool ad.isNone)) (fun t ht => by injection ht with ht; subst ht; show 4 < a2.tmps.size; rw [hsz2]; exact hd34.2) rfl))
    obtain ⟨G3, s3, p1, p2, p3, p4⟩ := hN
    injection p4 with p4; subst p4
    show (cloneC T).wp P _ a3 w3
    have hlast : run (cloneCx T e) (cloneC T) ⟨[(4, .dat .bool ad.isNone), (3, .dat (.slc e) xs), (0, .dat (.slc e) xs)], []⟩ (thenK (fun s' => run (cloneCx T e) (cloneR3 T) s' K) K) = some r := by
      cases ad with
      | none =>
        refine hnil ?_
        rcases hE with h | ⟨b, o, h, _⟩
        · exact h
        · cases h
      | some x => exact hsome
    refine run_sound hT hC hm (N := N) (ds := []) (cloneC T) k2 _ _ _ a3 w3 G3 ?_ hlast p1 (p2.trans hsz2) (p3.trans (f3.trans g3))
    exact thenK_left hL fun a' w' G' s' h1 h2 h3 h4 => run_sound hT hC hm (cloneR3 T) k3 K Q s' a' w' G' hL h4 h1 h2 h3
/-- What slices.Clone gives. -/
def cloneF {α : Type} (xs : List α) : Option (List α) := br (room ([] : List α) xs) (some (app [] xs)) none
end Go.Proofs.YtoikjekpckhgeaaGreat.Pal
end
section
/- slices.Clone: its contracts, at any type. -/
namespace Go.Proofs.YtoikjekpckhgeaaGreat.Pal
open Go
variable [MonoC]
variable {P : Program}
theorem cloneE_eq (e : Ty) : cloneE e = (cloneSg e).entry (fun xs => cloneF xs) := by
  unfold cloneE Sg.entry
  congr 1
  funext α args objs K
  cases args with
  | nil => rfl
  | cons v vs =>
    cases vs with
    | cons u us => simp [Ar.pull]
    | nil =>
      cases objs with
      | nil =>
        show (V.as (.slc e) v).bind _ = (V.as (.slc e) v).bind _
        cases h : V.as (.slc e) v with
        | none => rfl
        | some xs =>
          simp only [Option.bind_some]
          show br (room ([] : List Int) (id xs : List e.D)) (K (.raw e (id xs : List e.D)) []) none = bnd (cloneF (id xs : List e.D)) fun r => K (.raw e r) []
          unfold cloneF
          have : room ([] : List Int) (id xs : List e.D) = room ([] : List e.D) (id xs : List e.D) := rfl
          rw [this]
          cases room ([] : List e.D) (id xs : List e.D) <;> rfl
      | cons o os =>
        simp [Ar.pull, arTys, Dl.dec]
theorem clone_ok {f T B : Nat} {e : Ty} {fn : Func} (hT : TT P (cloneCx T e)) (hty : (cloneCx T e).ty T = some (.slc e)) (hm : P.follows .mixedOrders = true)
    (hf : P.funcs[f]? = some fn) (hb : fn.body = some (cloneCode T B)) (hnm : (fn.name == "runtime.NumGoroutine") = false) (hn : fn.ntmps = 8) (hr : fn.results = #[.tmp 2])
    (hok : okCode (cloneCx T e) 8 (cloneCode T B) = true)
    (h0 : ∀ xs : List e.D, run (cloneCx T e) (cloneR0 T) (st0 [.dat (.slc e) xs] []) toK = some ⟨[(0, .dat (.slc e) xs)], []⟩)
    (hnil : run (cloneCx T e) (cloneC T) ⟨[(4, .dat .bool true), (3, .dat (.slc e) []), (0, .dat (.slc e) [])], []⟩ (thenK (fun s' => run (cloneCx T e) (cloneR3 T) s' ((cloneSg e).K (cloneCx T e) [.tmp 2])) ((cloneSg e).K (cloneCx T e) [.tmp 2])) = cloneF [])
    (hsome : ∀ xs : List e.D, run (cloneCx T e) (cloneC T) ⟨[(4, .dat .bool false), (3, .dat (.slc e) xs), (0, .dat (.slc e) xs)], []⟩ (thenK (fun s' => run (cloneCx T e) (cloneR3 T) s' ((cloneSg e).K (cloneCx T e) [.tmp 2])) ((cloneSg e).K (cloneCx T e) [.tmp 2])) = cloneF xs) : CallOK P f (cloneE e) := by
  rw [cloneE_eq]
  refine fn_ok' (c := cloneCx T e) (code := cloneCode T B) hT hf hb hnm (by rw [hn]; rfl) (by rw [hr]; rfl) rfl ?_
  intro xs r hF X G w tmps Q hR hsz hL
  rw [hr] at hL
  rw [hn] at hsz hL
  refine clone_wp hT hty hm hok (K := (cloneSg e).K (cloneCx T e) [.tmp 2]) hR hsz hL (h0 xs) ?_ ?_
  · intro h; subst h; exact hnil.trans hF
  · exact (hsome xs).trans hF
theorem cloneO_eq (e : Ty) : cloneO e = (cloneOwn e).entry (fun xs => cloneF xs) := by
  unfold cloneO Sg.entry
  congr 1
  funext α args objs K
  cases args with
  | nil => rfl
  | cons v vs =>
    cases vs with
    | cons u us => simp [Ar.pull]
    | nil =>
      cases objs with
      | nil =>
        show (V.as (.slc e) v).bind _ = (V.as (.slc e) v).bind _
        cases h : V.as (.slc e) v with
        | none => rfl
        | some xs =>
          simp only [Option.bind_some]
          show br (room ([] : List Int) (id xs : List e.D)) (K (.own e (id xs : List e.D)) []) none = bnd (cloneF (id xs : List e.D)) fun r => K (.own e r) []
          unfold cloneF
          have : room ([] : List Int) (id xs : List e.D) = room ([] : List e.D) (id xs : List e.D) := rfl
          rw [this]
          cases room ([] : List e.D) (id xs : List e.D) <;> rfl
      | cons o os =>
        simp [Ar.pull, arTys, Dl.dec]
theorem cloneO_ok {f T B : Nat} {e : Ty} {fn : Func} (hT : TT P (cloneCx T e)) (hty : (cloneCx T e).ty T = some (.slc e)) (hm : P.follows .mixedOrders = true)
    (hf : P.funcs[f]? = some fn) (hb : fn.body = some (cloneCode T B)) (hnm : (fn.name == "runtime.NumGoroutine") = false) (hn : fn.ntmps = 8) (hr : fn.results = #[.tmp 2])
    (hok : okCode (cloneCx T e) 8 (cloneCode T B) = true)
    (h0 : ∀ xs : List e.D, run (cloneCx T e) (cloneR0 T) (st0 [.dat (.slc e) xs] []) toK = some ⟨[(0, .dat (.slc e) xs)], []⟩)
    (hnil : run (cloneCx T e) (cloneC T) ⟨[(4, .dat .bool true), (3, .dat (.slc e) []), (0, .dat (.slc e) [])], []⟩ (thenK (fun s' => run (cloneCx T e) (cloneR3 T) s' ((cloneOwn e).K (cloneCx T e) [.tmp 2])) ((cloneOwn e).K (cloneCx T e) [.tmp 2])) = cloneF [])
    (hsome : ∀ xs : List e.D, run (cloneCx T e) (cloneC T) ⟨[(4, .dat .bool false), (3, .dat (.slc e) xs), (0, .dat (.slc e) xs)], []⟩ (thenK (fun s' => run (cloneCx T e) (cloneR3 T) s' ((cloneOwn e).K (cloneCx T e) [.tmp 2])) ((cloneOwn e).K (cloneCx T e) [.tmp 2])) = cloneF xs) : CallOK P f (cloneO e) := by
  rw [cloneO_eq]
  refine fn_ok' (c := cloneCx T e) (code := cloneCode T B) hT hf hb hnm (by rw [hn]; rfl) (by rw [hr]; rfl) rfl ?_
  intro xs r hF X G w tmps Q hR hsz hL
  rw [hr] at hL
  rw [hn] at hsz hL
  refine clone_wp hT hty hm hok (K := (cloneOwn e).K (cloneCx T e) [.tmp 2]) hR hsz hL (h0 xs) ?_ ?_
  · intro h; subst h; exact hnil.trans hF
  · exact (hsome xs).trans hF
end Go.Proofs.YtoikjekpckhgeaaGreat.Pal
end
section
/- slices.SortFunc: what it leaves in a row of the call's own. -/
namespace Go.Proofs.YtoikjekpckhgeaaGreat.Pal
open Go Go.Sort
variable [MonoC]
variable {P : Program} {X Y : Nat → Nat → Prop} {G0 G G' : Gh} {w0 w w' : World} {s : St} {a : Act} {c : Cx} {Q : Exit → Act → World → Prop}

/-! ### Cells of plain data -/
def plainT : Ty → Bool
  | .int _ | .bool | .str => true
  | .slc _ | .arr .. => false
  | .pair a b => plainT a && plainT b
def encT : (τ : Ty) → τ.D → List Value
  | .int k, n => [.int k n]
  | .bool, b => [.bool b]
  | .str, s => [.string ⟨s.toArray⟩]
  | .slc _, _ => []
  | .arr .., _ => []
  | .pair a b, x => encT a x.1 ++ encT b x.2
theorem plain_flat : ∀ τ : Ty, plainT τ = true → flat τ = true
  | .int _, _ => rfl
  | .bool, _ => rfl
  | .str, _ => rfl
  | .slc _, h => by simp [plainT] at h
  | .arr _ _, h => by simp [plainT] at h
  | .pair a b, h => by
    simp only [plainT, Bool.and_eq_true] at h
    simp [flat, plain_flat a h.1, plain_flat b h.2]
theorem encT_rep {I : Im} : ∀ (τ : Ty) (x : τ.D) (cs : List Value), plainT τ = true → (DRep I τ x cs ↔ cs = encT τ x)
  | .int _, _, _, _ => Iff.rfl
  | .bool, _, _, _ => Iff.rfl
  | .str, _, _, _ => Iff.rfl
  | .slc _, _, _, h => by simp [plainT] at h
  | .arr _ _, _, _, h => by simp [plainT] at h
  | .pair a b, x, cs, h => by
    simp only [plainT, Bool.and_eq_true] at h
    constructor
    · rintro ⟨c1, c2, e, h1, h2⟩
      rw [e, (encT_rep a x.1 c1 h.1).1 h1, (encT_rep b x.2 c2 h.2).1 h2]; rfl
    · intro e
      exact ⟨encT a x.1, encT b x.2, e, (encT_rep a _ _ h.1).2 rfl, (encT_rep b _ _ h.2).2 rfl⟩
theorem encT_len (τ : Ty) (h : plainT τ = true) (x : τ.D) : (encT τ x).length = τ.cells := DRep.length (I := fun _ _ => none) τ x _ ((encT_rep τ x _ h).2 rfl)
theorem all2_flat {I : Im} {e : Ty} (h : plainT e = true) : ∀ (xs : List e.D) (cc : List Value), All2 (DRep I e) xs cc ↔ cc = xs.flatMap (encT e)
  | [], cc => Iff.rfl
  | x :: xs, cc => by
    constructor
    · rintro ⟨c1, c2, e1, h1, h2⟩
      rw [e1, (encT_rep e x c1 h).1 h1, (all2_flat h xs c2).1 h2]; rfl
    · intro e1
      exact ⟨encT e x, xs.flatMap (encT e), e1, (encT_rep e x _ h).2 rfl, (all2_flat h xs _).2 rfl⟩
theorem flatMap_len {e : Ty} (h : plainT e = true) (xs : List e.D) : (xs.flatMap (encT e)).length = xs.length * e.cells := by
  have := All2.len ((all2_flat (I := fun _ _ => none) h xs _).2 rfl)
  exact this
theorem flatMap_get {e : Ty} (h : plainT e = true) : ∀ (xs : List e.D) (j : Nat), j < xs.length * e.cells → ∃ x, xs[j / e.cells]? = some x ∧ (xs.flatMap (encT e))[j]? = (encT e x)[j % e.cells]?
  | [], j, hj => by simp at hj
  | x :: xs, j, hj => by
    have hl := encT_len e h x
    rcases Nat.lt_or_ge j e.cells with h1 | h1
    · refine ⟨x, by rw [Nat.div_eq_of_lt h1]; rfl, ?_⟩
      rw [List.flatMap_cons, List.getElem?_append_left (by omega), Nat.mod_eq_of_lt h1]
    · have hpos : 0 < e.cells := by
        rcases Nat.eq_zero_or_pos e.cells with h0 | h0
        · rw [h0] at hj; simp at hj
        · exact h0
      obtain ⟨y, g1, g2⟩ := flatMap_get h xs (j - e.cells) (by simp only [List.length_cons, Nat.add_mul] at hj; omega)
      have hd : j / e.cells = (j - e.cells) / e.cells + 1 := by rw [Nat.div_eq_sub_div hpos h1]
      have hm : j % e.cells = (j - e.cells) % e.cells := Nat.mod_eq_sub_mod h1
      refine ⟨y, by rw [hd]; simpa using g1, ?_⟩
      rw [List.flatMap_cons, List.getElem?_append_right (by omega), hl, hm]; exact g2
/-! ### The order -/
theorem ins_perm {α : Type} (lt : α → α → Bool) (x : α) : ∀ l, (ins lt x l).Perm (x :: l)
  | [] => List.Perm.refl _
  | y :: r => by
    simp only [ins]
    cases lt y x with
    | true => exact ((ins_perm lt x r).cons y).trans (List.Perm.swap x y r)
    | false => exact List.Perm.refl _
theorem isort_perm {α : Type} (lt : α → α → Bool) : ∀ l, (isort lt l).Perm l
  | [] => List.Perm.refl _
  | x :: r => (ins_perm lt x _).trans ((isort_perm lt r).cons x)
theorem ins_sorted {α : Type} {lt : α → α → Bool} (hO : SWO lt) (x : α) : ∀ l, l.Pairwise (fun a b => lt b a = false) → (ins lt x l).Pairwise (fun a b => lt b a = false)
  | [], _ => List.pairwise_singleton _ _
  | y :: r, h => by
    simp only [ins]
    rw [List.pairwise_cons] at h
    have asym : ∀ a b, lt a b = true → lt b a = false := fun a b hab => by
      cases hba : lt b a with
      | false => rfl
      | true => have := hO.trans a b a hab hba; rw [hO.irrefl] at this; cases this
    cases hyx : lt y x with
    | true =>
      simp only [cond_true]
      refine List.pairwise_cons.2 ⟨fun z hz => ?_, ins_sorted hO x r h.2⟩
      have hz' := (ins_perm lt x r).mem_iff.1 hz
      rcases List.mem_cons.1 hz' with rfl | hz'
      · exact asym _ _ hyx
      · exact h.1 z hz'
    | false =>
      simp only [cond_false]
      refine List.pairwise_cons.2 ⟨fun z hz => ?_, List.pairwise_cons.2 h⟩
      rcases List.mem_cons.1 hz with rfl | hz
      · exact hyx
      · exact hO.ntrans z y x (h.1 z hz) hyx
theorem isort_sorted {α : Type} {lt : α → α → Bool} (hO : SWO lt) : ∀ l, (isort lt l).Pairwise (fun a b => lt b a = false)
  | [] => List.Pairwise.nil
  | x :: r => ins_sorted hO x _ (isort_sorted hO r)
theorem sorted_unique {α : Type} {lt : α → α → Bool} (hT : ∀ x y, lt x y = false → lt y x = false → x = y) {l1 l2 : List α} (hp : l1.Perm l2) (h1 : l1.Pairwise (fun a b => lt b a = false)) (h2 : l2.Pairwise (fun a b => lt b a = false)) : l1 = l2 :=
  List.Perm.eq_of_pairwise (fun x y _ _ hx hy => hT x y hy hx) h1 h2 hp

/-! ### The contract -/
theorem run_dat (e : Ty) (hp : plainT e = true) (ha : e.agg = true) (G : Gh) (w : World) (x : e.D) : TRep G w (.dat e x) (.agg (encT e x).toArray) [] := by
  refine ⟨encT e x, ⟨(encT_rep e x _ hp).2 rfl, rfl⟩, ?_⟩
  show (if e.agg then _ else _)
  rw [ha]; rfl
instance inhD (e : Ty) : Inhabited e.D := ⟨e.zero⟩
theorem cmp_lays {g : Nat} {ce : Entry} {e : Ty} {cf : e.D → e.D → Int} (hp : plainT e = true) (ha : e.agg = true) (hg : @CallOK ⟨True⟩ P g ce) (eg : ∀ args w, (callFunc g args).run P w = .ok (.enter g args) w)
    (hcf : ∀ x y, ce.val [.dat e x, .dat e y] [] = some (.dat (.int .i64) (cf x y), [])) (blk off size : Nat) (w : World) : CmpLays P g #[] (encT e) e.cells cf blk off size w := by
  intro m os dk _ x y
  have h := plain_call (w := sortWorldK (encT e) e.cells w blk off m dk os) (argv := [.agg (encT e x).toArray, .agg (encT e y).toArray]) hg eg (hcf x y)
    (fun G => ⟨_, _, [], [], rfl, rfl, run_dat e hp ha _ _ x, _, _, [], [], rfl, rfl, run_dat e hp ha _ _ y, rfl, rfl⟩)
  have h' : Calls P g (#[.agg (encT e x).toArray, .agg (encT e y).toArray] ++ #[]) (sortWorldK (encT e) e.cells w blk off m dk os) _ := h
  refine Calls.mono h' fun e' w' hh => ?_
  obtain ⟨⟨G', y', t, h1, h2⟩, h3⟩ := hh
  exact ⟨by rw [h1, h2.dat_int], h3⟩
theorem holds_raw {I : Im} {e : Ty} (hp : plainT e = true) {gb : Nat} {xs : List e.D} {m : Nat} (h : RawB I w gb e xs m) : HoldsK (encT e) e.cells w gb 0 xs.toArray ∧ gb < w.heap.size := by
  obtain ⟨cells, t, cc, hg, hs, hA, hc⟩ := h
  refine ⟨fun j hj => ?_, (Array.getElem?_eq_some_iff.1 hg).1⟩
  simp only [size_flatK, List.size_toArray] at hj
  have hcc := (all2_flat hp xs cc).1 hA
  obtain ⟨x, g1, g2⟩ := flatMap_get hp xs j hj
  have hpos : 0 < e.cells := by
    rcases Nat.eq_zero_or_pos e.cells with h0 | h0
    · rw [h0] at hj; simp at hj
    · exact h0
  have hm : j % e.cells < (encT e x).length := by rw [encT_len e hp]; exact Nat.mod_lt _ hpos
  constructor
  · rw [cell_of hg, Nat.zero_add, get_flatK _ _ _ _ (by simpa using hj)]
    have h1 : (xs.toArray)[j / e.cells]! = x := by
      rw [Array.getElem!_eq_getD, Array.getD_eq_getD_getElem?]; simp [g1]
    rw [h1]
    have h2 : cc[j]? = some ((encT e x)[j % e.cells]) := by rw [hcc, g2, List.getElem?_eq_getElem hm]
    rw [hc j _ h2, getElem!_pos (encT e x) (j % e.cells) hm]; rfl
  · simp only [World.frozen?, hg]; simp

theorem heap_put {gb : Nat} {F : Array Value} {cells : Array Value} {t : TypeId} {fr : Nat × Nat} (hg : w.heap[gb]? = some (.cells cells t fr)) (n : Nat) (os : Array Obj) :
    (grow (putRow id (Sort.ahead w n) gb 0 F) os).heap[gb]? = some (.cells (putCells id 0 F cells) t fr) ∧ (∀ b, b < w.heap.size → b ≠ gb → (grow (putRow id (Sort.ahead w n) gb 0 F) os).heap[b]? = w.heap[b]?) ∧ w.heap.size ≤ (grow (putRow id (Sort.ahead w n) gb 0 F) os).heap.size := by
  have hlt := (Array.getElem?_eq_some_iff.1 hg).1
  refine ⟨?_, fun b hb hne => ?_, ?_⟩
  · show ((w.heap.modify gb _) ++ os)[gb]? = _
    rw [Array.getElem?_append_left (by simpa using hlt), Array.getElem?_modify, if_pos rfl, hg]; rfl
  · show ((w.heap.modify gb _) ++ os)[b]? = _
    rw [Array.getElem?_append_left (by simpa using hb), Array.getElem?_modify, if_neg (by omega)]
  · show w.heap.size ≤ ((w.heap.modify gb _) ++ os).size
    simp
theorem sort_ok {ρ : Shelf.Ren} {e : Ty} {g : Nat} {ce : Entry} {cf : e.D → e.D → Int} (L : SlLaysF0.n6 P ρ) (hp : plainT e = true) (ha : e.agg = true) (aE : ∀ w, (isAgg (ρ.t 24)).run P w = .ok true w) (zE : ∀ w, (Go.sizeOf (ρ.t 24)).run P w = .ok e.cells w)
    (hO : SWO (ltOf cf)) (hT : ∀ x y, ltOf cf x y = false → ltOf cf y x = false → x = y) (hg : @CallOK ⟨True⟩ P g ce) (eg : ∀ args w, (callFunc g args).run P w = .ok (.enter g args) w) (ef : ∀ args w, (callFunc (ρ.f 6) args).run P w = .ok (.enter (ρ.f 6) args) w)
    (hcf : ∀ x y, ce.val [.dat e x, .dat e y] [] = some (.dat (.int .i64) (cf x y), [])) : CallOK P (ρ.f 6) (sortE e g (ltOf cf)) := by
  have val : ∀ args objs v os, (sortE e g (ltOf cf)).val args objs = some (v, os) → ∃ xs : List e.D, args = [.raw e xs, .fn g []] ∧ objs = [] ∧ xs.length ≤ 4294967296 ∧ v = .unit ∧ os = [.raw e (isort (ltOf cf) xs)] := by
    intro args objs v os h
    unfold Entry.val sortE at h
    simp only at h
    split at h
    · rename_i e' xs g'
      split at h
      · rename_i he; subst he
        obtain ⟨hb, h⟩ := cond_then h
        obtain ⟨hr, h⟩ := br_then h
        injection h with h; injection h with h1 h2
        have := beq_nat.1 hb
        subst this
        exact ⟨xs, rfl, rfl, by have := hr; simp only [room, List.length_nil, Nat.zero_add, decide_eq_true_eq] at this; exact this, h1.symm, h2.symm⟩
      · cases h
    · cases h
  refine ⟨fun α args objs K => ?_, fun args objs vr os hval X G w argv tA tM hW hX hA hM hcnt htok => ?_⟩
  · unfold Entry.val sortE
    simp only
    split
    · split
      · rw [cond_bind]; congr 1
        rw [br_bind]; rfl
      · rfl
    · rfl
  · obtain ⟨xs, rfl, rfl, hlen, rfl, rfl⟩ := val _ _ _ _ hval
    obtain ⟨x0, r0, t1, t2, rfl, rfl, ⟨cs, ⟨ad, len, cap, e1, e2, e3, e4⟩, hx⟩, x1, r1, t3, t4, rfl, rfl, ⟨cs1, ⟨cv, f1, f2, f3⟩, hx1⟩, rfl, rfl⟩ := hA
    simp only [V.agg, Bool.false_eq_true, if_false] at hx hx1
    rw [e1] at hx; rw [f1] at hx1
    simp only [List.cons.injEq, and_true] at hx hx1
    subst hx; subst hx1; subst f3
    have hcv : cv = #[] := by apply Array.ext'; simpa [capsRep] using f2
    subst hcv
    obtain ⟨hM1, hM2⟩ : tM = [] ∧ True := ⟨hM, trivial⟩
    have post : ∀ w', Evo X w w' → (∀ b o v, G.I b o = some v → w'.cell? ⟨b, o, none⟩ = some v) → RawRep G w' e (isort (ltOf cf) xs) [.slice ad len cap] t1 →
        ∃ G', Post X G w 0 .unit [.raw e (isort (ltOf cf) xs)] (.tuple #[]) (some (.slice ad len cap)) G' w' := by
      intro w' hE hc hr
      refine ⟨G, ⟨hE, Im.le_refl _, fun _ _ _ h => .inl h, fun _ _ _ => rfl⟩, ⟨hc, hW.io, fun b o k h => Nat.lt_of_lt_of_le (hW.lt b o k h) hE.size⟩, fun _ _ => rfl, [], [], t1, unit_undef, rfl, ?_, fun q => ?_, fun q hq => ?_⟩
      · exact ⟨_, rfl, [.slice ad len cap], hr, rfl⟩
      · have := hcnt q; simp at this ⊢; omega
      · exact .inr (htok q (by simp at hq ⊢; omega))
    refine .inl ⟨ef _ _, ?_⟩
    rcases Nat.eq_zero_or_pos len with h0 | h0
    · have hxs : xs = [] := List.eq_nil_of_length_eq_zero (by omega)
      subst hxs; subst h0
      refine Calls.mono (AnyF.slices_SortFunc_none L ad cap (.func (.func g) #[] #[]) w) fun e' w' hh => ?_
      obtain ⟨rfl, rfl⟩ := hh
      exact post w' (Evo.refl _ _) hW.holds ⟨ad, 0, cap, rfl, rfl, e3, e4⟩
    · rcases e4 with ⟨hc0, _⟩ | ⟨gb, rfl, rfl, hraw, hI, hO'⟩
      · omega
      · obtain ⟨hH, hlt⟩ := holds_raw hp hraw
        obtain ⟨cells, ty, cc, hgc, hs, hA2, hcc⟩ := hraw
        have hsz : xs.toArray.size = len := by simpa using e2
        have hcon := AnyQ.slices_SortFunc L e.cells aE zE (encT e) (encT_len e hp) (fun x v hv => oneCell_of_plain (DRep.plain (I := fun _ _ => none) e x _ ((encT_rep e x _ hp).2 rfl) v hv)) cf hO g #[] gb 0 cap xs.toArray w eg
          (cmp_lays hp ha hg eg hcf gb 0 _ w) hH hlt (by rw [hsz]; omega)
        rw [hsz] at hcon
        refine Calls.mono hcon fun e' w' hh => ?_
        obtain ⟨rfl, d', n, os, hperm, hsort, rfl⟩ := hh
        have hd' : d'.toList = isort (ltOf cf) xs := by
          have hs2 : d'.size = len := by rw [hperm.1]; exact hsz
          have hp2 : d'.toList.Perm xs := by
            have := hperm.2.2
            have e5 : d'.extract 0 len = d' := by rw [← hs2]; simp
            have e6 : xs.toArray.extract 0 len = xs.toArray := by rw [← hsz]; simp
            rw [e5, e6] at this
            simpa using this
          refine sorted_unique hT (hp2.trans (isort_perm _ xs).symm) ?_ (isort_sorted hO xs)
          rw [List.pairwise_iff_getElem]
          intro i j hi hj hij
          have := hsort i j (Nat.zero_le _) hij (by rw [← hs2]; simpa using hj)
          have gi : d'[i]! = d'.toList[i] := by rw [getElem!_pos d' i (by simpa using hi)]; simp
          have gj : d'[j]! = d'.toList[j] := by rw [getElem!_pos d' j (by simpa using hj)]; simp
          rw [gi, gj] at this
          exact this
        have hlen' : (isort (ltOf cf) xs).length = len := by rw [(isort_perm (ltOf cf) xs).length_eq]; exact e2
        obtain ⟨k1, k2, k3⟩ := heap_put (F := flatK (encT e) e.cells d') hgc n os
        have hone : cnt gb [gb] = 1 := by simp [cnt]
        have hX1 : ∀ o, X gb o := htok gb (by simp only [cnt_append]; omega)
        refine post _ ⟨rfl, rfl, rfl, k3, fun b hb => ?_, fun _ => Nat.le_add_right _ _⟩ (fun b o v hv => ?_) ⟨_, len, cap, rfl, hlen', e3, .inr ⟨gb, rfl, rfl, ⟨_, ty, _, k1, by simp [putCells, hs], (all2_flat hp _ _).2 rfl, fun j v hj => ?_⟩, hI, hO'⟩⟩
        · by_cases hb' : b = gb
          · subst hb'
            exact .inr ⟨cells, _, ty, (0, 0), hgc, k1, by simp [putCells], fun j hj => absurd (hX1 j) hj⟩
          · exact .inl (k2 b hb hb')
        · have hb' : b ≠ gb := fun e => by subst e; rw [hI o] at hv; cases hv
          have hh := hW.holds b o v hv
          have hlt' := World.block_lt_of_cell? w _ hh
          have : (sortWorldK (encT e) e.cells w gb 0 n d' os).cell? ⟨b, o, none⟩ = w.cell? ⟨b, o, none⟩ := World.cell?_of_block (w := w) (k2 b hlt' hb')
          rw [this]; exact hh
        · have hjl : j < (isort (ltOf cf) xs).length * e.cells := by
            have := (List.getElem?_eq_some_iff.1 hj).1
            rwa [flatMap_len hp] at this
          obtain ⟨x, q1, q2⟩ := flatMap_get hp _ j hjl
          rw [q2] at hj
          have hds : d'.size = len := by rw [hperm.1]; exact hsz
          have hjd : j < d'.size * e.cells := by rw [hds, ← hlen']; exact hjl
          have hjc : j < cells.size := by
            rw [hs]
            exact Nat.lt_of_lt_of_le hjd (Nat.mul_le_mul_right _ (by omega))
          have hx : d'[j / e.cells]! = x := by
            rw [← hd'] at q1
            rw [Array.getElem!_eq_getD, Array.getD_eq_getD_getElem?]
            have : d'[j / e.cells]? = some x := by simpa using q1
            rw [this]; rfl
          have hm := (List.getElem?_eq_some_iff.1 hj)
          simp only [putCells, Array.getElem?_mapIdx, Array.getElem?_eq_getElem hjc, Option.map_some, size_flatK, Nat.zero_add, Nat.sub_zero]
          rw [if_pos ⟨Nat.zero_le _, hjd⟩, get_flatK _ _ _ _ hjd, hx, getElem!_pos (encT e x) (j % e.cells) hm.1]
          exact congrArg some hm.2
end Go.Proofs.YtoikjekpckhgeaaGreat.Pal
end
section
/- What slices.Insert and slices.Clone lean on: copies of rows, and what is given back. -/
namespace Go.Proofs.YtoikjekpckhgeaaGreat
open Go.Shelf Go.RowKit Go.Lib
set_option linter.unusedVariables false
set_option linter.unusedSimpArgs false
theorem run_copy_k {P : Program} (k : Nat) (w : World) (dT sT ty elem : TypeId) (b o dLen dCap : Nat) (a : Addr) (sLen sCap : Nat) (cs : List Value)
    (hu : P.underlying dT = some (.slice elem)) (hs : (P.info? elem).map (·.size) = some k) (cnt : Nat) (hm : Nat.min sLen dLen = cnt) (hn : cs.length = cnt * k)
    (hsrc : ∀ (j : Nat) (v : Value), cs[j]? = some v → w.cell? (a.add j) = some v) (hc : ∀ j, j < cs.length → (w.cell? ⟨b, o + j, none⟩).isSome = true) (hf : ∀ j, j < cs.length → w.frozen? ⟨b, o + j, none⟩ = false) (h1 : ∀ v ∈ cs, v.oneCell' = true) :
    (Builtin.copy_ #[dT, sT] ty #[.slice (some ⟨b, o, none⟩) dLen dCap, .slice (some a) sLen sCap]).run P w = .ok (goInt cnt) (w.setCells b o cs) := by
  subst hm
  have hl := run_loadCells_list (P := P) w a cs hsrc
  have hst := run_storeCells_cells (P := P) b o cs 0 w (by simpa using hc) (by simpa using hf) h1
  rw [hn] at hl
  cases hq : P.info? elem with
  | none => simp [hq] at hs
  | some i =>
    have hi : i.size = k := by simpa [hq] using hs
    simp [Builtin.copy_, run_underlying hu, Builtin.lenOf, Builtin.firstCells, sizeOf, typeInfo, hq, hi, hl, hst]
/-- What is known of an element's type. -/
def okInfoK (k : Nat) (i : TypeInfo) : Bool := (match i.zero with | some z => z.cells.size == k | none => false) && i.size == k && Nat.ble i.bytes 16384
theorem okInfoK_spec {P : Program} {k t : Nat} (h : (P.info? t).map (okInfoK k) = some true) : ∃ i z, P.info? t = some i ∧ i.zero = some z ∧ i.size = k ∧ i.bytes ≤ 16384 ∧ z.cells.size = k := by
  cases hq : P.info? t with
  | none => rw [hq] at h; cases h
  | some i =>
    rw [hq] at h; injection h with h
    unfold okInfoK at h
    simp only [Bool.and_eq_true, beq_iff_eq] at h
    cases hz : i.zero with
    | none => rw [hz] at h; cases h.1.1
    | some z => rw [hz] at h; exact ⟨i, z, rfl, hz, h.1.2, Nat.le_of_ble_eq_true h.2, by simpa using h.1.1⟩
theorem overlaps_apart {P : Program} (w : World) (tS tR e : TypeId) (ht : P.underlying tS = some (.slice e)) (size : Nat) (hz : ∀ w, (Go.sizeOf e).run P w = .ok size w)
    (a b : Addr) (la ca lb cb : Nat) (hne : a.block ≠ b.block) (tA tB : TypeId) (kA kB : Nat)
    (hsa : w.shape? a.block = some (tA, kA)) (hsb : w.shape? b.block = some (tB, kB)) (hkA : kA ≠ 0)
    (hfb : w.frozen? b = false) (hfe : w.frozen? { block := b.block, off := kB } = false) :
    (Extern.SlicesOverlaps.overlaps #[tS, tS] #[tR] #[.slice (some a) la ca, .slice (some b) lb cb]).run P w = .ok (.bool false) w := by
  have hnb : (a.block != b.block) = true := by simpa using hne
  have hnb' : (a.block == b.block) = false := by simpa using hne
  change Sem.run P (α := Value) (do
    let some t := (#[tS, tS] : Array TypeId)[0]? | stuck "slices.overlaps: no parameter types"
    let .slice elem ← underlying t | stuck "slices.overlaps: slice type expected"
    let size ← sizeOf elem
    match (some a : Option Addr), (some b : Option Addr) with
    | some a, some b =>
      if la = 0 ∨ lb = 0 ∨ size = 0 then pure (Value.bool false)
      else if a.block != b.block && (← frozen a) && (← frozen b) then unsupported .addressObserved
      else do
        if a.block != b.block then do
          noView a; noView b
          if ← mayBeOne a b then return Value.bool ((← choose (.extern "sameAddr.stringBytes" 2)) == 1)
        pure (Value.bool (a.block == b.block && a.off < b.off + lb * size && b.off < a.off + la * size))
    | _, _ => pure (Value.bool false)) w = _
  by_cases h0 : la = 0 ∨ lb = 0 ∨ size = 0
  · simp [run_underlying ht, hz, h0]
  · cases kA with
    | zero => exact absurd rfl hkA
    | succ kA =>
      by_cases hf1 : w.frozen? a = true <;> by_cases hf2 : w.frozen? { block := a.block, off := kA + 1 } = true <;>
        simp [run_underlying ht, hz, h0, hnb, hnb', frozen, noView, viewAt, mayBeOne, stringish, shape, Sem.run, hsa, hsb, hfb, hfe, hf1, hf2]
end Go.Proofs.YtoikjekpckhgeaaGreat
namespace Go.Proofs.YtoikjekpckhgeaaGreat.Pal
open Go Go.Sort
set_option linter.unusedVariables false
variable {P : Program}
/-- A list of the call's own is given back, at a block that is new, or was the caller's own. -/
theorem own_post {X : Nat → Nat → Prop} {G : Gh} {w w' : World} {e : Ty} {zs : List e.D} {g cap : Nat} {cells : Array Value} {t : TypeId} {cc : List Value} {ax : Option Value} (hW : Wf G w) (hE : Evo X w w')
    (hk : ∀ b, b < w.heap.size → b ≠ g → w'.heap[b]? = w.heap[b]?) (hg : w'.heap[g]? = some (.cells cells t (0, 0))) (hs : cells.size = cap * e.cells) (hcap : zs.length ≤ cap ∧ cap ≤ 9223372036854775807)
    (hA : All2 (DRep G.I e) zs cc) (hcc : ∀ (j : Nat) (v : Value), cc[j]? = some v → w'.cell? ⟨g, j, none⟩ = some v)
    (hI : ∀ o, G.I g o = none) (hO : ∀ o, G.O g o = none) (hX : w.heap.size ≤ g ∨ ∀ o, X g o) :
    ∃ G', Post X G w 0 (.own e zs) [] (.slice (some ⟨g, 0, none⟩) zs.length cap) ax G' w' := by
  have hcl := hA.len
  have hold : ∀ b o v, G.I b o = some v → w'.cell? ⟨b, o, none⟩ = some v ∧ b ≠ g := fun b o v hv => by
    have hb' : b ≠ g := fun e => by subst e; rw [hI o] at hv; cases hv
    have hh := hW.holds b o v hv
    exact ⟨by rw [World.cell?_of_block (w := w) (hk b (World.block_lt_of_cell? w _ hh) hb')]; exact hh, hb'⟩
  let G' : Gh := { G with I := fun b o => if b = g then cc[o]? else G.I b o }
  have hI' : ∀ b o, b ≠ g → G'.I b o = G.I b o := fun b o hb => by show (if b = g then cc[o]? else G.I b o) = _; rw [if_neg hb]
  have hIg : ∀ o, G'.I g o = cc[o]? := fun o => by show (if g = g then cc[o]? else _) = _; rw [if_pos rfl]
  refine ⟨G', ⟨hE, fun b o v hv => by rw [hI' b o (hold b o v hv).2]; exact hv, fun b o v hv => ?_, fun _ _ _ => rfl⟩, ⟨fun b o v hv => ?_, fun b o v hv => ?_, fun b o k h => Nat.lt_of_lt_of_le (hW.lt b o k h) hE.size⟩, fun _ _ => rfl, [g], [], [], ?_, rfl, rfl, fun q => ?_, fun q hq => ?_⟩
  · by_cases hb : b = g
    · subst hb; rcases hX with h | h
      · exact .inr (.inl h)
      · exact .inr (.inr (h o))
    · rw [hI' b o hb] at hv; exact .inl hv
  · by_cases hb : b = g
    · subst hb; rw [hIg] at hv; exact hcc o v hv
    · rw [hI' b o hb] at hv; exact (hold b o v hv).1
  · by_cases hb : b = g
    · subst hb; exact hO o
    · rw [hI' b o hb] at hv; exact hW.io b o v hv
  · have hat : AtI G'.I g 0 cc := fun j v hj => by rw [Nat.zero_add, hIg]; exact hj
    refine ⟨_, ⟨_, zs.length, cap, rfl, rfl, hcap, .inr ⟨g, rfl, rfl, ?_, ⟨cells, t, hg, hs⟩, fun o ho => ?_, hO⟩⟩, rfl⟩
    · exact Elems.mono (Im.le_refl _) (fun x c h => DRep.mono (fun b o v hv => by rw [hI' b o (hold b o v hv).2]; exact hv) e x c h) (All2.elems (fun x c => DRep.length e x c) zs cc g 0 hA hat)
    · rw [hIg, List.getElem?_eq_none (by rw [hcl]; exact ho)]
  · have : cnt q [g] ≤ 1 := by simp only [cnt]; exact List.count_le_length
    simpa using this
  · have : q = g := by simpa [cnt_pos.symm] using hq
    subst this; exact hX
theorem setCells_block (b : Nat) : ∀ (vs : List Value) (o : Nat) (w : World) (cells : Array Value) (t : TypeId) (fr : Nat × Nat), w.heap[b]? = some (.cells cells t fr) → ∃ cells', (w.setCells b o vs).heap[b]? = some (.cells cells' t fr) ∧ cells'.size = cells.size
  | [], _, w, cells, t, fr, h => ⟨cells, h, rfl⟩
  | v :: vs, o, w, cells, t, fr, h => by
    have h1 : (w.setCell ⟨b, o, none⟩ v).heap[b]? = some (.cells (cells.setIfInBounds o v) t fr) := by
      have hlt := (Array.getElem?_eq_some_iff.1 h).1
      show (w.heap.modify b _)[b]? = _
      rw [Array.getElem?_modify, if_pos rfl, h]; rfl
    obtain ⟨c', k1, k2⟩ := setCells_block b vs (o + 1) _ _ _ _ h1
    exact ⟨c', k1, by rw [k2]; simp⟩
theorem setCells_other (b : Nat) : ∀ (vs : List Value) (o : Nat) (w : World) (b' : Nat), b' ≠ b → (w.setCells b o vs).heap[b']? = w.heap[b']?
  | [], _, _, _, _ => rfl
  | v :: vs, o, w, b', h => by
    show ((w.setCell ⟨b, o, none⟩ v).setCells b (o + 1) vs).heap[b']? = _
    rw [setCells_other b vs (o + 1) _ b' h]
    show (w.heap.modify b _)[b']? = _
    rw [Array.getElem?_modify, if_neg (by omega)]
theorem flatMap_take {e : Ty} (hp : plainT e = true) : ∀ (xs : List e.D) (i : Nat), i ≤ xs.length → (xs.take i).flatMap (encT e) = (xs.flatMap (encT e)).take (i * e.cells)
  | _, 0, _ => by simp
  | [], i + 1, h => by simp at h
  | x :: xs, i + 1, h => by
    have hl := encT_len e hp x
    rw [List.take_succ_cons, List.flatMap_cons, List.flatMap_cons, flatMap_take hp xs i (by simpa using h), Nat.add_mul, Nat.one_mul, List.take_append, hl, List.take_of_length_le (l := encT e x) (by omega), show i * e.cells + e.cells - e.cells = i * e.cells by omega]
theorem flatMap_drop {e : Ty} (hp : plainT e = true) : ∀ (xs : List e.D) (i : Nat), i ≤ xs.length → (xs.drop i).flatMap (encT e) = (xs.flatMap (encT e)).drop (i * e.cells)
  | _, 0, _ => by simp
  | [], i + 1, h => by simp at h
  | x :: xs, i + 1, h => by
    have hl := encT_len e hp x
    rw [List.drop_succ_cons, List.flatMap_cons, flatMap_drop hp xs i (by simpa using h), Nat.add_mul, Nat.one_mul, List.drop_append, hl, List.drop_of_length_le (l := encT e x) (by omega), show i * e.cells + e.cells - e.cells = i * e.cells by omega]; rfl
theorem ins_get (cs vs : List Value) (k l : Nat) (hk : k ≤ cs.length) (hl : vs.length = l) (j : Nat) (v : Value) (h : (cs.take k ++ (vs ++ cs.drop k))[j]? = some v) :
    (j < k ∧ cs[j]? = some v) ∨ (k ≤ j ∧ j < k + l ∧ vs[j - k]? = some v) ∨ (k + l ≤ j ∧ (cs.drop k)[j - (k + l)]? = some v) := by
  have h1 : (cs.take k).length = k := by simp; omega
  rcases Nat.lt_or_ge j k with hj | hj
  · rw [List.getElem?_append_left (by omega), List.getElem?_take, if_pos hj] at h
    exact .inl ⟨hj, h⟩
  · rw [List.getElem?_append_right (by omega), h1] at h
    rcases Nat.lt_or_ge j (k + l) with hj2 | hj2
    · rw [List.getElem?_append_left (by omega)] at h
      exact .inr (.inl ⟨hj, hj2, h⟩)
    · rw [List.getElem?_append_right (by omega)] at h
      refine .inr (.inr ⟨hj2, ?_⟩)
      rw [← h]; congr 1; omega
theorem setCells_os (b : Nat) : ∀ (vs : List Value) (o : Nat) (w : World), (w.setCells b o vs).os = w.os
  | [], _, _ => rfl
  | v :: vs, o, w => setCells_os b vs (o + 1) _
theorem setCells_tape (b : Nat) : ∀ (vs : List Value) (o : Nat) (w : World), (w.setCells b o vs).tape = w.tape
  | [], _, _ => rfl
  | v :: vs, o, w => setCells_tape b vs (o + 1) _
theorem setCells_output (b : Nat) : ∀ (vs : List Value) (o : Nat) (w : World), (w.setCells b o vs).output = w.output
  | [], _, _ => rfl
  | v :: vs, o, w => setCells_output b vs (o + 1) _
theorem setCells_drawn (b : Nat) : ∀ (vs : List Value) (o : Nat) (w : World), (w.setCells b o vs).drawn = w.drawn
  | [], _, _ => rfl
  | v :: vs, o, w => setCells_drawn b vs (o + 1) _
theorem cell_in {W : World} {b o : Nat} {l : List Value} (hs : ∀ j, j < l.length → (W.cell? ⟨b, o + j, none⟩).isSome = true) {j : Nat} {v : Value} (h1 : o ≤ j) (h : l[j - o]? = some v) : (W.setCells b o l).cell? ⟨b, j, none⟩ = some v := by
  have hj := (List.getElem?_eq_some_iff.1 h)
  have := World.cell?_setCells_in b l o W hs (j - o) hj.1
  rw [show o + (j - o) = j by omega] at this
  rw [this, ← h, List.getElem?_eq_getElem hj.1]
theorem cell_out {W : World} {b o : Nat} {l : List Value} {j : Nat} (h1 : j < o ∨ o + l.length ≤ j) : (W.setCells b o l).cell? ⟨b, j, none⟩ = W.cell? ⟨b, j, none⟩ :=
  World.cell?_setCells_out b l o W ⟨b, j, none⟩ (fun _ _ => h1)
theorem two_a {W : World} {b k l : Nat} {cs vs : List Value} (hk : k ≤ cs.length) (hl : vs.length = l) (hs : ∀ j, j < cs.length + l → (W.cell? ⟨b, j, none⟩).isSome = true) (hp : ∀ (j : Nat) (v : Value), j < k → cs[j]? = some v → W.cell? ⟨b, j, none⟩ = some v)
    (j : Nat) (v : Value) (h : (cs.take k ++ (vs ++ cs.drop k))[j]? = some v) : ((W.setCells b (k + l) (cs.drop k)).setCells b k vs).cell? ⟨b, j, none⟩ = some v := by
  have hd : (cs.drop k).length = cs.length - k := by simp
  rcases ins_get cs vs k l hk hl j v h with ⟨h1, h2⟩ | ⟨h1, h2, h3⟩ | ⟨h1, h2⟩
  · rw [cell_out (by omega), cell_out (by omega)]; exact hp j v h1 h2
  · refine cell_in (fun t ht => ?_) h1 h3
    rw [cell_out (by omega)]; exact hs _ (by omega)
  · rw [cell_out (by omega)]
    exact cell_in (fun t ht => hs _ (by omega)) h1 h2
theorem two_b {W : World} {b k l : Nat} {cs vs : List Value} (hk : k ≤ cs.length) (hl : vs.length = l) (hs : ∀ j, j < cs.length + l → (W.cell? ⟨b, j, none⟩).isSome = true) (hp : ∀ (j : Nat) (v : Value), j < k → cs[j]? = some v → W.cell? ⟨b, j, none⟩ = some v)
    (j : Nat) (v : Value) (h : (cs.take k ++ (vs ++ cs.drop k))[j]? = some v) : ((W.setCells b k vs).setCells b (k + l) (cs.drop k)).cell? ⟨b, j, none⟩ = some v := by
  have hd : (cs.drop k).length = cs.length - k := by simp
  rcases ins_get cs vs k l hk hl j v h with ⟨h1, h2⟩ | ⟨h1, h2, h3⟩ | ⟨h1, h2⟩
  · rw [cell_out (by omega), cell_out (by omega)]; exact hp j v h1 h2
  · rw [cell_out (by omega)]
    exact cell_in (fun t ht => hs _ (by omega)) h1 h3
  · refine cell_in (fun t ht => ?_) h1 h2
    by_cases hh : k + l + t < k
    · omega
    · rw [cell_out (by omega)]; exact hs _ (by omega)
theorem All2.split {α : Type} {R : α → List Value → Prop} {sz : Nat} (hl : ∀ x c, R x c → c.length = sz) : ∀ (xs : List α) (cs : List Value) (i : Nat), i ≤ xs.length → All2 R xs cs → All2 R (xs.take i) (cs.take (i * sz)) ∧ All2 R (xs.drop i) (cs.drop (i * sz))
  | xs, cs, 0, _, h => by simpa using ⟨(rfl : ([] : List Value) = []), h⟩
  | [], cs, i + 1, hi, _ => by simp at hi
  | x :: xs, cs, i + 1, hi, ⟨c1, c2, e, h1, h2⟩ => by
    have hc := hl x c1 h1
    obtain ⟨a, b⟩ := All2.split hl xs c2 i (by simpa using hi) h2
    subst e
    have e1 : (i + 1) * sz = c1.length + i * sz := by rw [Nat.add_mul, hc]; omega
    rw [e1, List.take_succ_cons, List.drop_succ_cons]
    constructor
    · refine ⟨c1, c2.take (i * sz), ?_, h1, a⟩
      rw [List.take_append, List.take_of_length_le (l := c1) (by omega), Nat.add_sub_cancel_left]
    · rw [List.drop_append, List.drop_of_length_le (l := c1) (by omega), Nat.add_sub_cancel_left]; exact b
theorem all2_plain {I : Im} {e : Ty} : ∀ (xs : List e.D) (cs : List Value), All2 (DRep I e) xs cs → ∀ v ∈ cs, v.oneCell' = true
  | [], cs, h, v, hv => by have h : cs = [] := h; subst h; simp at hv
  | x :: xs, cs, ⟨c1, c2, e1, h1, h2⟩, v, hv => by
    subst e1
    rcases List.mem_append.1 hv with hv | hv
    · exact oneCell_of_plain (DRep.plain e x c1 h1 v hv)
    · exact all2_plain xs c2 h2 v hv
end Go.Proofs.YtoikjekpckhgeaaGreat.Pal
end
