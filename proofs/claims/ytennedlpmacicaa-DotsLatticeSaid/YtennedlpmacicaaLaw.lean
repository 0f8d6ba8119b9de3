/- Plain facts about what is reckoned with data. -/
import Derived.Test.YtennedlpmacicaaCore
namespace Go.Proofs.Ytennedlpmacicaa.Pal
open Go
theorem br_true {α : Type} (x y : Option α) : br true x y = x := rfl
theorem br_false {α : Type} (x y : Option α) : br false x y = y := rfl
theorem br_ite {α : Type} (b : Bool) (x y : Option α) : br b x y = if b = true then x else y := by cases b <;> rfl
theorem bnd_some {α β : Type} (a : α) (f : α → Option β) : bnd (some a) f = f a := rfl
theorem wrap_i64 {n : Int} (h1 : -(2 : Int) ^ 63 ≤ n) (h2 : n < 2 ^ 63) : IntKind.wrap .i64 n = n := by
  have e1 : ((2 : Int) ^ 63) = 9223372036854775808 := by decide
  rw [e1] at h1 h2
  simp only [IntKind.wrap, IntKind.signed, IntKind.bits]
  simp
  omega
theorem iadd_nat {i : Nat} (h : i < 4611686018427387904) : iadd .i64 (i : Int) 1 = ((i + 1 : Nat) : Int) := by
  have e1 : ((2 : Int) ^ 63) = 9223372036854775808 := by decide
  show IntKind.wrap .i64 ((i : Int) + 1) = _
  rw [wrap_i64 (by rw [e1]; omega) (by rw [e1]; omega)]
  omega
theorem iadd_0 {i : Nat} (h : i < 4611686018427387904) : iadd .i64 (i : Int) 1 = ((i + 1 : Nat) : Int) := iadd_nat h
theorem ilt_nat (i : Nat) {α : Type} (xs : List α) : ilt (i : Int) (ilen xs) = decide (i < xs.length) := by simp [ilt, ilen]
theorem ilt_nn (i j : Nat) : ilt (i : Int) (j : Int) = decide (i < j) := by simp [ilt]
theorem inL_nat (i : Nat) {α : Type} (xs : List α) : inL (i : Int) xs = decide (i < xs.length) := by simp [inL]
theorem inB_nat (i n : Nat) : inB (i : Int) n = decide (i < n) := by simp [inB]
theorem natOf_nat (i : Nat) : natOf (i : Int) = i := rfl
theorem ieq_dec (a b : Int) : ieq a b = decide (a = b) := by simp [ieq]; rfl
theorem ieq_len {α β : Type} (xs : List α) (ys : List β) : ieq (ilen xs) (ilen ys) = decide (xs.length = ys.length) := by
  rw [ieq_dec]; simp only [ilen]; congr 1; exact propext ⟨fun h => by omega, fun h => by omega⟩
theorem bnot_dec (p : Prop) [Decidable p] : bnot (decide p) = decide (¬ p) := by simp [bnot]
theorem seq_dec (a b : List UInt8) : seq a b = decide (a = b) := by
  simp only [seq]; by_cases h : a = b <;> simp [h]
theorem rd_at' {e : Ty} {xs : List e.D} {i : Nat} (h : i < xs.length) : rd e xs i = xs[i] := by simp [rd, List.getD, h]
theorem arrEq_iff {α : Type} {f : α → α → Bool} (hf : ∀ x y, f x y = true ↔ x = y) : ∀ xs ys : List α, arrEq f xs ys = true ↔ xs = ys
  | [], [] => by simp [arrEq]
  | [], y :: ys => by simp [arrEq]
  | x :: xs, [] => by simp [arrEq]
  | x :: xs, y :: ys => by
    have ih := arrEq_iff hf xs ys
    simp only [arrEq, Bool.and_eq_true, beq_iff_eq] at ih
    simp only [arrEq, List.length_cons, List.zip_cons_cons, List.all_cons, Bool.and_eq_true, beq_iff_eq, hf, List.cons.injEq, Nat.add_right_cancel_iff]
    rw [← ih]
    exact ⟨fun ⟨a, b, c⟩ => ⟨b, a, c⟩, fun ⟨b, a, c⟩ => ⟨a, b, c⟩⟩
theorem deq_iff : ∀ (τ : Ty), τ.hasEq0 = true → ∀ x y : τ.D, deq τ x y = true ↔ x = y
  | .int k, _, x, y => by show ieq x y = true ↔ x = y; simp [ieq]
  | .bool, _, x, y => by show beqB x y = true ↔ x = y; simp [beqB]
  | .str, _, x, y => by show seq x y = true ↔ x = y; simp [seq]
  | .slc e, h, _, _ => by simp [Ty.hasEq0] at h
  | .arr n e, h, x, y => arrEq_iff (deq_iff e h) x y
  | .pair a b, h, x, y => by
    simp only [Ty.hasEq0, Bool.and_eq_true] at h
    show (deq a x.1 y.1 && deq b x.2 y.2) = true ↔ x = y
    rw [Bool.and_eq_true, deq_iff a h.1, deq_iff b h.2]
    exact ⟨fun ⟨h1, h2⟩ => Prod.ext h1 h2, fun h => by rw [h]; exact ⟨rfl, rfl⟩⟩
/-- 'All from i on': one step. -/
theorem all_step {α : Type} {xs : List α} {i : Nat} (h : i < xs.length) (p : α → Bool) : (xs.drop i).all p = (p xs[i] && (xs.drop (i + 1)).all p) := by
  rw [List.drop_eq_getElem_cons h, List.all_cons]
theorem all_end {α : Type} {xs : List α} {i : Nat} (h : xs.length ≤ i) (p : α → Bool) : (xs.drop i).all p = true := by rw [List.drop_eq_nil_of_le h]; rfl
/-- All pairs, from i on. -/
def zall {α β : Type} (p : α → β → Bool) (xs : List α) (ys : List β) : Bool := (xs.zip ys).all fun q => p q.1 q.2
theorem zall_step {α β : Type} {xs : List α} {ys : List β} {i : Nat} (h : i < xs.length) (h' : i < ys.length) (p : α → β → Bool) :
    zall p (xs.drop i) (ys.drop i) = (p xs[i] ys[i] && zall p (xs.drop (i + 1)) (ys.drop (i + 1))) := by
  rw [List.drop_eq_getElem_cons h, List.drop_eq_getElem_cons h']; rfl
theorem zall_end {α β : Type} {xs : List α} {ys : List β} {i : Nat} (h : xs.length ≤ i) (p : α → β → Bool) : zall p (xs.drop i) (ys.drop i) = true := by
  rw [List.drop_eq_nil_of_le h]; rfl
theorem zall_eq {α : Type} [DecidableEq α] : ∀ (xs ys : List α), xs.length = ys.length → zall (fun x y => decide (x = y)) xs ys = decide (xs = ys)
  | [], [], _ => by simp [zall]
  | [], y :: ys, h => by simp at h
  | x :: xs, [], h => by simp at h
  | x :: xs, y :: ys, h => by
    have ih := zall_eq xs ys (by simpa using h)
    have : zall (fun x y => decide (x = y)) (x :: xs) (y :: ys) = (decide (x = y) && zall (fun x y => decide (x = y)) xs ys) := rfl
    rw [this, ih, ← Bool.decide_and]
    congr 1; simp
theorem zall_swap {α : Type} {p : α → α → Bool} {q : α → α → Bool} (h : ∀ x y, p x y = q y x) : ∀ (xs ys : List α), zall p xs ys = zall q ys xs
  | [], [] => rfl
  | [], y :: ys => rfl
  | x :: xs, [] => rfl
  | x :: xs, y :: ys => by
    show (p x y && zall p xs ys) = (q y x && zall q ys xs)
    rw [h, zall_swap h xs ys]
theorem zall_refl {α : Type} {p : α → α → Bool} (h : ∀ x, p x x = true) : ∀ (xs : List α), zall p xs xs = true
  | [] => rfl
  | x :: xs => by
    show (p x x && zall p xs xs) = true
    rw [h, zall_refl h xs]; rfl
theorem deq_dec {τ : Ty} [DecidableEq τ.D] (h : τ.hasEq0 = true) (x y : τ.D) : deq τ x y = decide (x = y) := by
  have := deq_iff τ h x y
  by_cases e : x = y
  · simp [e, (deq_iff τ h y y).2 rfl]
  · simp [e]; cases hd : deq τ x y with
    | false => rfl
    | true => exact absurd (this.1 hd) e
end Go.Proofs.Ytennedlpmacicaa.Pal
