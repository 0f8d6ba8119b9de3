/- The plain law: the run of AuditLikes answers true for every input. -/
import Derived.Test.YtennedlpmacicaaAuditAwake
import Derived.Test.YtennedlpmacicaaLaw
import Derived.Test.YtennedlpmacicaaRow
namespace Go.Proofs.Ytennedlpmacicaa
open Pal
abbrev XDot := Int × Int
abbrev XRef := XDot × Int
abbrev XVal := Int × Int × List UInt8
abbrev XOp := Int × List (List UInt8) × XVal × Int × List XRef
instance decOp3 : DecidableEq (Int × List XRef) := inferInstance
instance decOp2 : DecidableEq (XVal × Int × List XRef) := instDecidableEqProd
instance decOp1 : DecidableEq (List (List UInt8) × XVal × Int × List XRef) := instDecidableEqProd
instance decOp : DecidableEq XOp := instDecidableEqProd
abbrev XTxn := XDot × Int × Int × Bool × List XOp

theorem eqS_l (k : Nat) (xs ys : List (List UInt8)) (hl : xs.length = ys.length) (hb : xs.length < 1000000) : ∀ (n i : Nat), i ≤ xs.length → xs.length < n + i →
    slices_Equal_string_string.l4 k n xs ys (ilen xs) (i : Int) = some (zall (fun x y => decide (x = y)) (xs.drop i) (ys.drop i))
  | 0, i, h, h' => by omega
  | n + 1, i, h, h' => by
    rw [slices_Equal_string_string.l4_eq, ilt_nat, inL_nat, inL_nat, natOf_nat]
    by_cases hi : i < xs.length
    · have hi' : i < ys.length := by omega
      rw [zall_step hi hi', rd_at' (e := .str) hi, rd_at' (e := .str) hi', seq_dec, iadd_nat (by omega)]
      simp only [hi, hi', decide_true, br_true]
      by_cases he : xs[i] = ys[i]
      · simp only [he, decide_true, Bool.true_and]
        exact eqS_l k xs ys hl hb n (i + 1) (by omega) (by omega)
      · simp only [he, decide_false, Bool.false_and]; rfl
    · rw [zall_end (by omega)]
      simp only [hi, decide_false, br_false]
theorem eqS (k : Nat) (xs ys : List (List UInt8)) (hb : xs.length < k) (hk : k < 1000000) : slices_Equal_string_string.f k xs ys = some (decide (xs = ys)) := by
  rw [slices_Equal_string_string.f_eq, ieq_len]
  by_cases hl : xs.length = ys.length
  · simp only [hl, decide_true]
    have := eqS_l k xs ys hl (by omega) k 0 (by omega) (by omega)
    simp only [List.drop_zero, zall_eq xs ys hl] at this
    exact this
  · have : xs ≠ ys := fun e => hl (by rw [e])
    simp only [hl, this, decide_false]; rfl
theorem eqR_l (k : Nat) (xs ys : List XRef) (hl : xs.length = ys.length) (hb : xs.length < 1000000) : ∀ (n i : Nat), i ≤ xs.length → xs.length < n + i →
    slices_Equal_api_Ref_api_Ref.l4 k n xs ys (ilen xs) (i : Int) = some (zall (fun x y => decide (x = y)) (xs.drop i) (ys.drop i))
  | 0, i, h, h' => by omega
  | n + 1, i, h, h' => by
    rw [slices_Equal_api_Ref_api_Ref.l4_eq, ilt_nat, inL_nat, inL_nat, natOf_nat]
    by_cases hi : i < xs.length
    · have hi' : i < ys.length := by omega
      rw [zall_step hi hi', rd_at' (e := tUndo) hi, rd_at' (e := tUndo) hi', deq_dec (τ := tUndo) rfl, iadd_nat (by omega)]
      simp only [hi, hi', decide_true, br_true]
      by_cases he : xs[i] = ys[i]
      · simp only [he, decide_true, Bool.true_and]
        exact eqR_l k xs ys hl hb n (i + 1) (by omega) (by omega)
      · simp only [he, decide_false, Bool.false_and]; rfl
    · rw [zall_end (by omega)]
      simp only [hi, decide_false, br_false]
theorem eqR (k : Nat) (xs ys : List XRef) (hb : xs.length < k) (hk : k < 1000000) : slices_Equal_api_Ref_api_Ref.f k xs ys = some (decide (xs = ys)) := by
  rw [slices_Equal_api_Ref_api_Ref.f_eq, ieq_len]
  by_cases hl : xs.length = ys.length
  · simp only [hl, decide_true]
    have := eqR_l k xs ys hl (by omega) k 0 (by omega) (by omega)
    simp only [List.drop_zero, zall_eq xs ys hl] at this
    exact this
  · have : xs ≠ ys := fun e => hl (by rw [e])
    simp only [hl, this, decide_false]; rfl
theorem sameS_l (k : Nat) (xs ys : List (List UInt8)) (hl : xs.length = ys.length) (hb : xs.length < 1000000) : ∀ (n i : Nat), i ≤ xs.length → xs.length < n + i →
    ref03_Same.l4 k n xs ys (i : Int) = some (zall (fun x y => decide (x = y)) (xs.drop i) (ys.drop i))
  | 0, i, h, h' => by omega
  | n + 1, i, h, h' => by
    rw [ref03_Same.l4_eq, ilt_nat, inL_nat, inL_nat, natOf_nat]
    by_cases hi : i < xs.length
    · have hi' : i < ys.length := by omega
      rw [zall_step hi hi', rd_at' (e := .str) hi, rd_at' (e := .str) hi', seq_dec, iadd_nat (by omega)]
      simp only [hi, hi', decide_true, br_true]
      by_cases he : xs[i] = ys[i]
      · simp only [he, decide_true, Bool.true_and]
        exact sameS_l k xs ys hl hb n (i + 1) (by omega) (by omega)
      · simp only [he, decide_false, Bool.false_and]; rfl
    · rw [zall_end (by omega)]
      simp only [hi, decide_false, br_false]
theorem sameS (k : Nat) (xs ys : List (List UInt8)) (hb : xs.length < k) (hk : k < 1000000) : ref03_Same.f k xs ys = some (decide (xs = ys)) := by
  rw [ref03_Same.f_eq, ieq_len]
  by_cases hl : xs.length = ys.length
  · simp only [hl, decide_true]
    have := sameS_l k xs ys hl (by omega) k 0 (by omega) (by omega)
    simp only [List.drop_zero, zall_eq xs ys hl] at this
    exact this
  · have : xs ≠ ys := fun e => hl (by rw [e])
    simp only [hl, this, decide_false]; rfl
/-- Short operations. -/
def shortOp (o : XOp) : Prop := o.2.1.length ≤ 12 ∧ o.2.2.2.2.length ≤ 300
theorem opSame (k : Nat) (o p : XOp) (ho : shortOp o) (hk : 400 ≤ k) (hk' : k < 1000000) : op_Same.f k o p = some (decide (o = p)) := by
  obtain ⟨o1, o2, o3, o4, o5⟩ := o
  obtain ⟨p1, p2, p3, p4, p5⟩ := p
  obtain ⟨h1, h2⟩ := ho
  simp only at h1 h2
  rw [op_Same.f_eq]
  simp only [ieq_dec, deq_dec (τ := tValue) rfl]
  rw [eqS k o2 p2 (by omega) hk', eqR k o5 p5 (by omega) hk']
  simp only [bnd_some, br_ite, decide_eq_true_eq, Prod.mk.injEq]
  by_cases e1 : o1 = p1 <;> by_cases e2 : o2 = p2 <;> by_cases e3 : o3 = p3 <;> by_cases e4 : o4 = p4 <;> simp [e1, e2, e3, e4]
theorem op11Same_l (k : Nat) (o p : XOp) (hl : o.2.2.2.2.length = p.2.2.2.2.length) (hb : o.2.2.2.2.length < 1000000) : ∀ (n i : Nat), i ≤ o.2.2.2.2.length → o.2.2.2.2.length < n + i →
    ref11_Same.l4 k n (i : Int) o p = some (zall (fun x y => decide (x = y)) (o.2.2.2.2.drop i) (p.2.2.2.2.drop i))
  | 0, i, h, h' => by omega
  | n + 1, i, h, h' => by
    rw [ref11_Same.l4_eq, ilt_nat, inL_nat, inL_nat, natOf_nat]
    by_cases hi : i < o.2.2.2.2.length
    · have hi' : i < p.2.2.2.2.length := by omega
      rw [zall_step hi hi', rd_at' (e := tUndo) hi, rd_at' (e := tUndo) hi', deq_dec (τ := tUndo) rfl, iadd_nat (by omega)]
      simp only [hi, hi', decide_true, br_true]
      by_cases he : o.2.2.2.2[i] = p.2.2.2.2[i]
      · simp only [he, decide_true, Bool.true_and]
        exact op11Same_l k o p hl hb n (i + 1) (by omega) (by omega)
      · simp only [he, decide_false, Bool.false_and]; rfl
    · rw [zall_end (by omega)]
      simp only [hi, decide_false, br_false]
theorem op11Same (k : Nat) (o p : XOp) (ho : shortOp o) (hk : 400 ≤ k) (hk' : k < 1000000) : ref11_Same.f k o p = some (decide (o = p)) := by
  have hlo := op11Same_l k o p
  obtain ⟨o1, o2, o3, o4, o5⟩ := o
  obtain ⟨p1, p2, p3, p4, p5⟩ := p
  obtain ⟨h1, h2⟩ := ho
  simp only at h1 h2 hlo
  rw [ref11_Same.f_eq]
  simp only [ieq_len]
  simp only [ieq_dec, deq_dec (τ := tValue) rfl]
  rw [sameS k o2 p2 (by omega) hk']
  simp only [bnd_some, br_ite, bnot_dec, decide_eq_true_eq, Prod.mk.injEq]
  by_cases e1 : o1 = p1 <;> by_cases e2 : o2 = p2 <;> by_cases e3 : o3 = p3 <;> by_cases e4 : o4 = p4 <;> by_cases e5 : o5.length = p5.length <;> simp [e1, e2, e3, e4, e5]
  · have := hlo e5 (by omega) k 0 (by omega) (by omega)
    simp only [List.drop_zero, zall_eq o5 p5 e5] at this
    simp only [e1, e2, e3, e4] at this
    simpa using this
  all_goals (intro e; exact absurd (by rw [e]) e5)
/-- What is gone. -/
def gone (o : XOp) : Bool := decide (o.1 = 0 ∧ o.2.1.length = 0 ∧ o.2.2.1 = (0, 0, []) ∧ o.2.2.2.1 = 0 ∧ o.2.2.2.2.length = 0)
theorem ieq_len0 {α : Type} (xs : List α) : ieq (ilen xs) 0 = decide (xs.length = 0) := by
  rw [ieq_dec]; simp only [ilen]; congr 1; exact propext ⟨fun h => by omega, fun h => by omega⟩
theorem opGone (k : Nat) (o : XOp) : op_Gone.f k o = some (gone o) := by
  rw [op_Gone.f_eq]
  simp only [deq_dec (τ := tValue) rfl, ieq_len0]
  simp only [ieq_dec, br_ite, decide_eq_true_eq, gone]
  by_cases e1 : o.1 = 0 <;> by_cases e2 : o.2.1.length = 0 <;> by_cases e3 : o.2.2.1 = (0, 0, []) <;> by_cases e4 : o.2.2.2.1 = 0 <;> simp [e1, e2, e3, e4]
theorem op11Gone (k : Nat) (o : XOp) : ref11_Gone.f k o = some (gone o) := by
  rw [ref11_Gone.f_eq]
  simp only [deq_dec (τ := tValue) rfl, ieq_len0]
  simp only [ieq_dec, br_ite, decide_eq_true_eq, gone]
  by_cases e1 : o.1 = 0 <;> by_cases e2 : o.2.1.length = 0 <;> by_cases e3 : o.2.2.1 = (0, 0, []) <;> by_cases e4 : o.2.2.2.1 = 0 <;> simp [e1, e2, e3, e4]

/-- Like each other: operation by operation. -/
def likeO (s t : Bool) (o p : XOp) : Bool := decide (o = p) || (s && gone o) || (t && gone p)
def like (a b : XTxn) : Bool := decide (a.1 = b.1) && (decide (a.2.1 = b.2.1) && (decide (a.2.2.1 = b.2.2.1) && (decide (a.2.2.2.2.length = b.2.2.2.2.length) && zall (likeO a.2.2.2.1 b.2.2.2.1) a.2.2.2.2 b.2.2.2.2)))
def shortT (a : XTxn) : Prop := a.2.2.2.2.length ≤ 20 ∧ ∀ o ∈ a.2.2.2.2, shortOp o
theorem like_l (k : Nat) (hk : 400 ≤ k) (hk' : k < 1000000) (a b : XTxn) (ha : shortT a) (hl : a.2.2.2.2.length = b.2.2.2.2.length) : ∀ (n i : Nat), i ≤ a.2.2.2.2.length → a.2.2.2.2.length < n + i →
    audit_Like.l4 k n a.2.2.2.2 (ilen a.2.2.2.2) (i : Int) a b = some (zall (likeO a.2.2.2.1 b.2.2.2.1) (a.2.2.2.2.drop i) (b.2.2.2.2.drop i))
  | 0, i, h, h' => by omega
  | n + 1, i, h, h' => by
    rw [audit_Like.l4_eq, ilt_nat, inL_nat, inL_nat, natOf_nat]
    have hb := ha.1
    by_cases hi : i < a.2.2.2.2.length
    · have hi' : i < b.2.2.2.2.length := by omega
      rw [zall_step hi hi', rd_at' (e := tOp) hi, rd_at' (e := tOp) hi', iadd_nat (by omega)]
      rw [opSame k _ _ (ha.2 _ (List.getElem_mem hi)) hk hk', opGone, opGone, like_l k hk hk' a b ha hl n (i + 1) (by omega) (by omega)]
      simp only [hi, hi', decide_true, br_true, bnd_some, likeO]
      by_cases he : a.2.2.2.2[i] = b.2.2.2.2[i] <;> cases hs : a.2.2.2.1 <;> cases ht : b.2.2.2.1 <;> cases h1 : gone a.2.2.2.2[i] <;> cases h2 : gone b.2.2.2.2[i] <;> simp [he, bnot, br]
      all_goals simp_all
    · rw [zall_end (by omega)]
      simp only [hi, decide_false, br_false]
theorem like_f (k : Nat) (hk : 400 ≤ k) (hk' : k < 1000000) (a b : XTxn) (ha : shortT a) : audit_Like.f k a b = some (like a b) := by
  rw [audit_Like.f_eq]
  simp only [ieq_len]
  simp only [ieq_dec, deq_dec (τ := tDot) rfl, bnot_dec, br_ite, decide_eq_true_eq, like]
  by_cases e1 : a.1 = b.1 <;> by_cases e2 : a.2.1 = b.2.1 <;> by_cases e3 : a.2.2.1 = b.2.2.1 <;> by_cases e4 : a.2.2.2.2.length = b.2.2.2.2.length <;> simp [e1, e2, e3, e4]
  have h0 := ha.1
  have := like_l k hk hk' a b ha e4 k 0 (by omega) (by omega)
  simpa using this
theorem like42_l (k : Nat) (hk : 400 ≤ k) (hk' : k < 1000000) (a b : XTxn) (ha : shortT a) (hl : a.2.2.2.2.length = b.2.2.2.2.length) : ∀ (n i : Nat), i ≤ a.2.2.2.2.length → a.2.2.2.2.length < n + i →
    ref42_Like.l4 k n (i : Int) a b = some (zall (likeO a.2.2.2.1 b.2.2.2.1) (a.2.2.2.2.drop i) (b.2.2.2.2.drop i))
  | 0, i, h, h' => by omega
  | n + 1, i, h, h' => by
    rw [ref42_Like.l4_eq, ilt_nat, inL_nat, inL_nat, natOf_nat]
    have hb := ha.1
    by_cases hi : i < a.2.2.2.2.length
    · have hi' : i < b.2.2.2.2.length := by omega
      rw [zall_step hi hi', rd_at' (e := tOp) hi, rd_at' (e := tOp) hi', iadd_nat (by omega)]
      rw [op11Same k _ _ (ha.2 _ (List.getElem_mem hi)) hk hk', op11Gone, op11Gone, like42_l k hk hk' a b ha hl n (i + 1) (by omega) (by omega)]
      simp only [hi, hi', decide_true, br_true, bnd_some, likeO]
      by_cases he : a.2.2.2.2[i] = b.2.2.2.2[i] <;> cases hs : a.2.2.2.1 <;> cases ht : b.2.2.2.1 <;> cases h1 : gone a.2.2.2.2[i] <;> cases h2 : gone b.2.2.2.2[i] <;> simp [he, bnot, br]
      all_goals simp_all
    · rw [zall_end (by omega)]
      simp only [hi, decide_false, br_false]
theorem like42_f (k : Nat) (hk : 400 ≤ k) (hk' : k < 1000000) (a b : XTxn) (ha : shortT a) : ref42_Like.f k a b = some (like a b) := by
  rw [ref42_Like.f_eq]
  simp only [ieq_len]
  simp only [ieq_dec, deq_dec (τ := tDot) rfl, bnot_dec, br_ite, decide_eq_true_eq, like]
  by_cases e1 : a.1 = b.1 <;> by_cases e2 : a.2.1 = b.2.1 <;> by_cases e3 : a.2.2.1 = b.2.2.1 <;> by_cases e4 : a.2.2.2.2.length = b.2.2.2.2.length <;> simp [e1, e2, e3, e4]
  have h0 := ha.1
  have := like42_l k hk hk' a b ha e4 k 0 (by omega) (by omega)
  simpa using this
theorem same12_l (k : Nat) (hk : 400 ≤ k) (hk' : k < 1000000) (a b : XTxn) (ha : shortT a) (hl : a.2.2.2.2.length = b.2.2.2.2.length) : ∀ (n i : Nat), i ≤ a.2.2.2.2.length → a.2.2.2.2.length < n + i →
    ref12_Same.l4 k n (i : Int) a b = some (zall (fun x y => decide (x = y)) (a.2.2.2.2.drop i) (b.2.2.2.2.drop i))
  | 0, i, h, h' => by omega
  | n + 1, i, h, h' => by
    rw [ref12_Same.l4_eq, ilt_nat, inL_nat, inL_nat, natOf_nat]
    have hb := ha.1
    by_cases hi : i < a.2.2.2.2.length
    · have hi' : i < b.2.2.2.2.length := by omega
      rw [zall_step hi hi', rd_at' (e := tOp) hi, rd_at' (e := tOp) hi', iadd_nat (by omega)]
      rw [op11Same k _ _ (ha.2 _ (List.getElem_mem hi)) hk hk', same12_l k hk hk' a b ha hl n (i + 1) (by omega) (by omega)]
      simp only [hi, hi', decide_true, br_true, bnd_some]
      by_cases he : a.2.2.2.2[i] = b.2.2.2.2[i] <;> simp [he, bnot, br]
    · rw [zall_end (by omega)]
      simp only [hi, decide_false, br_false]
theorem same12_f (k : Nat) (hk : 400 ≤ k) (hk' : k < 1000000) (a b : XTxn) (ha : shortT a) : ref12_Same.f k a b = some (decide (a = b)) := by
  have hlo := same12_l k hk hk' a b ha
  obtain ⟨a1, a2, a3, a4, a5⟩ := a
  obtain ⟨b1, b2, b3, b4, b5⟩ := b
  have h0 := ha.1
  simp only at h0 hlo
  rw [ref12_Same.f_eq]
  simp only [ieq_len]
  simp only [ieq_dec, deq_dec (τ := tDot) rfl, deq_dec (τ := .bool) rfl, bnot_dec, br_ite, decide_eq_true_eq, Prod.mk.injEq]
  by_cases e1 : a1 = b1 <;> by_cases e2 : a2 = b2 <;> by_cases e3 : a3 = b3 <;> by_cases e4 : a4 = b4 <;> by_cases e5 : a5.length = b5.length <;> simp [e1, e2, e3, e4, e5]
  · have := hlo e5 k 0 (by omega) (by omega)
    simp only [List.drop_zero, zall_eq a5 b5 e5] at this
    simp only [e1, e2, e3, e4] at this
    simpa using this
  all_goals (intro e; exact absurd (by rw [e]) e5)
theorem likeO_swap (s t : Bool) (o p : XOp) : likeO s t o p = likeO t s p o := by
  unfold likeO
  by_cases e : o = p
  · simp [e]
  · have : ¬ p = o := fun h => e h.symm
    simp only [e, this, decide_false, Bool.false_or]
    exact Bool.or_comm _ _
theorem like_swap (a b : XTxn) : like a b = like b a := by
  unfold like
  rw [zall_swap (likeO_swap a.2.2.2.1 b.2.2.2.1)]
  have e : ∀ {α : Type} [DecidableEq α] (x y : α), decide (x = y) = decide (y = x) := fun x y => decide_eq_decide.2 ⟨Eq.symm, Eq.symm⟩
  rw [e a.1, e a.2.1, e a.2.2.1, e a.2.2.2.2.length]
theorem like_refl (a : XTxn) : like a a = true := by
  unfold like
  rw [zall_refl fun o => by simp [likeO]]
  simp
/-! ### Short? -/
theorem short10_l (k : Nat) (xs : List (List UInt8)) (hb : xs.length ≤ 12) : ∀ (n i : Nat), i ≤ xs.length → xs.length < n + i → ∃ b, ref10_Short.l4 k n xs (i : Int) = some b
  | 0, i, h, h' => by omega
  | n + 1, i, h, h' => by
    rw [ref10_Short.l4_eq, ilt_nat, inL_nat, natOf_nat]
    by_cases hi : i < xs.length
    · rw [iadd_nat (by omega)]
      simp only [hi, decide_true, br_true]
      obtain ⟨b, hb'⟩ := short10_l k xs hb n (i + 1) (by omega) (by omega)
      rw [hb', br_ite]
      split
      · exact ⟨_, rfl⟩
      · exact ⟨_, rfl⟩
    · simp only [hi, decide_false, br_false]; exact ⟨_, rfl⟩
theorem ilt_c (c : Nat) {α : Type} (xs : List α) : ilt (c : Int) (ilen xs) = decide (c < xs.length) := ilt_nat c xs
theorem ile_c (c : Nat) {α : Type} (xs : List α) : ile (ilen xs) (c : Int) = decide (xs.length ≤ c) := by simp [ile, ilen]
theorem short10 (k : Nat) (hk : 400 ≤ k) (xs : List (List UInt8)) : ∃ b, ref10_Short.f k xs = some b ∧ (b = true → xs.length ≤ 12) := by
  rw [ref10_Short.f_eq, show ((12 : Int)) = ((12 : Nat) : Int) from rfl, ilt_c]
  by_cases h : 12 < xs.length
  · simp only [h, decide_true, br_true]; exact ⟨false, rfl, fun h => by cases h⟩
  · simp only [h, decide_false, br_false]
    obtain ⟨b, hb⟩ := short10_l k xs (by omega) k 0 (by omega) (by omega)
    exact ⟨b, hb, fun _ => by omega⟩
theorem short11 (k : Nat) (hk : 400 ≤ k) (o : XOp) : ∃ b, ref11_Short.f k o = some b ∧ (b = true → shortOp o) := by
  obtain ⟨b, h1, h2⟩ := short10 k hk o.2.1
  rw [ref11_Short.f_eq, h1, bnd_some]
  cases b with
  | false => exact ⟨false, rfl, fun h => by cases h⟩
  | true =>
    rw [br_true, br_ite]
    split
    · refine ⟨_, rfl, fun h => ⟨h2 rfl, ?_⟩⟩
      rw [show ((300 : Int)) = ((300 : Nat) : Int) from rfl, ile_c] at h
      exact of_decide_eq_true h
    · exact ⟨false, rfl, fun h => by cases h⟩
theorem short12_l (k : Nat) (hk : 400 ≤ k) (a : XTxn) (hb : a.2.2.2.2.length ≤ 20) : ∀ (n i : Nat), i ≤ a.2.2.2.2.length → a.2.2.2.2.length < n + i →
    ∃ b, ref12_Short.l4 k n (i : Int) a = some b ∧ (b = true → ∀ o ∈ a.2.2.2.2.drop i, shortOp o)
  | 0, i, h, h' => by omega
  | n + 1, i, h, h' => by
    rw [ref12_Short.l4_eq, ilt_nat, inL_nat, natOf_nat]
    by_cases hi : i < a.2.2.2.2.length
    · rw [iadd_nat (by omega), rd_at' (e := tOp) hi]
      simp only [hi, decide_true, br_true]
      obtain ⟨b, h1, h2⟩ := short11 k hk a.2.2.2.2[i]
      obtain ⟨c, h3, h4⟩ := short12_l k hk a hb n (i + 1) (by omega) (by omega)
      rw [h1, bnd_some, h3]
      cases b with
      | false => exact ⟨false, rfl, fun h => by cases h⟩
      | true =>
        refine ⟨c, rfl, fun hc o ho => ?_⟩
        rw [List.drop_eq_getElem_cons hi, List.mem_cons] at ho
        rcases ho with rfl | ho
        · exact h2 rfl
        · exact h4 hc o ho
    · simp only [hi, decide_false, br_false]
      exact ⟨true, rfl, fun _ o ho => by rw [List.drop_eq_nil_of_le (by omega)] at ho; cases ho⟩
theorem short12 (k : Nat) (hk : 400 ≤ k) (a : XTxn) : ∃ b, ref12_Short.f k a = some b ∧ (b = true → shortT a) := by
  rw [ref12_Short.f_eq, show ((20 : Int)) = ((20 : Nat) : Int) from rfl, ilt_c]
  by_cases h : 20 < a.2.2.2.2.length
  · simp only [h, decide_true, br_true]; exact ⟨false, rfl, fun h => by cases h⟩
  · simp only [h, decide_false, br_false]
    obtain ⟨b, h1, h2⟩ := short12_l k hk a (by omega) k 0 (by omega) (by omega)
    exact ⟨b, h1, fun hb => ⟨by omega, by simpa using h2 hb⟩⟩
theorem auditLikes_all (a b : XTxn) : law42_AuditLikes.f 1000 a b = some true := by
  have hw : law42_awake.f 1000 = some true := law42_awake.is 960
  obtain ⟨sa, h1, h2⟩ := short12 1000 (by omega) a
  obtain ⟨sb, h3, h4⟩ := short12 1000 (by omega) b
  rw [law42_AuditLikes.f_eq, h1, h3, hw]
  simp only [bnd_some]
  cases sa with
  | false => rfl
  | true =>
    cases sb with
    | false => rfl
    | true =>
      have ha := h2 rfl
      have hb := h4 rfl
      rw [like_f 1000 (by omega) (by omega) a b ha, like_f 1000 (by omega) (by omega) b a hb, like_f 1000 (by omega) (by omega) a a ha, like42_f 1000 (by omega) (by omega) a b ha, same12_f 1000 (by omega) (by omega) a b ha, like_swap b a, like_refl]
      simp only [bnd_some, deq_dec (τ := .bool) rfl, decide_true, br_true, bnot_dec]
      by_cases e : a = b
      · subst e
        simp [like_refl, br, bnot]
      · simp [e, br, bnot]
theorem auditLikes_true (a : Ty.D tTxn) (_ : Fits tTxn a) (b : Ty.D tTxn) (_ : Fits tTxn b) : ∃ k, law42_AuditLikes.f k a b = some true := ⟨1000, auditLikes_all a b⟩
end Go.Proofs.Ytennedlpmacicaa
