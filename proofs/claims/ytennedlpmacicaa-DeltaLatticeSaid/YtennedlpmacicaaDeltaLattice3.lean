/- The statement of the law DeltaLattice: for every input the law returns true, and its arguments read as they did. No conditions. -/
import Derived.KernelRfl
import Derived.Test.YtennedlpmacicaaRows
import Derived.WalkKit
import Derived.ProofKit
import Derived.OpenShut
import Derived.ShutString
import Derived.ChangeOld
import Derived.Below
import Derived.Test.YtennedlpmacicaaFw1
import Derived.Test.YtennedlpmacicaaFw2
import Derived.Test.YtennedlpmacicaaDeltaLattice1
import Derived.Test.YtennedlpmacicaaDeltaLattice2
section
/- The same, and right, among sets of dots. -/
namespace Go.Proofs.Ytennedlpmacicaa
open Pal
theorem eqD_l (k : Nat) (xs ys : List Dot) (hl : xs.length = ys.length) (hb : xs.length < 1000000) : ∀ (n i : Nat), i ≤ xs.length → xs.length < n + i →
    slices_Equal_api_Dot_api_Dot.l4 k n xs ys (ilen xs) (i : Int) = some (zall (fun x y => decide (x = y)) (xs.drop i) (ys.drop i))
  | 0, i, h, h' => by omega
  | n + 1, i, h, h' => by
    rw [slices_Equal_api_Dot_api_Dot.l4_eq, ilt_nat, inL_nat, inL_nat, natOf_nat]
    by_cases hi : i < xs.length
    · have hi' : i < ys.length := by omega
      rw [zall_step hi hi', rd_at' (e := tDot) hi, rd_at' (e := tDot) hi', deqD, bnot_dec, iadd_nat (by omega)]
      simp only [hi, hi', decide_true, br_true]
      by_cases he : xs[i] = ys[i]
      · simp only [he, not_true, decide_true, decide_false, br_false, Bool.true_and]
        exact eqD_l k xs ys hl hb n (i + 1) (by omega) (by omega)
      · simp only [he, not_false_eq_true, decide_false, decide_true, br_true, Bool.false_and]
    · rw [zall_end (by omega)]
      simp only [hi, decide_false, br_false]
theorem eqD (k : Nat) (xs ys : List Dot) (hb : xs.length < k) (hk : k < 1000000) : slices_Equal_api_Dot_api_Dot.f k xs ys = some (decide (xs = ys)) := by
  rw [slices_Equal_api_Dot_api_Dot.f_eq, ieq_len, bnot_dec]
  by_cases hl : xs.length = ys.length
  · simp only [hl, not_true, decide_false, br_false]
    have := eqD_l k xs ys hl (by omega) k 0 (by omega) (by omega)
    simp only [List.drop_zero, zall_eq xs ys hl] at this
    exact this
  · have : xs ≠ ys := fun e => hl (by rw [e])
    simp only [hl, this, not_false_eq_true, decide_true, decide_false, br_true]
theorem reqD_l (k : Nat) (xs ys : List Dot) (hl : xs.length = ys.length) (hb : xs.length < 1000000) : ∀ (n i : Nat), i ≤ xs.length → xs.length < n + i →
    ref04_Same.l4 k n xs ys (i : Int) = some (zall (fun x y => decide (x = y)) (xs.drop i) (ys.drop i))
  | 0, i, h, h' => by omega
  | n + 1, i, h, h' => by
    rw [ref04_Same.l4_eq, ilt_nat, inL_nat, inL_nat, natOf_nat]
    by_cases hi : i < xs.length
    · have hi' : i < ys.length := by omega
      rw [zall_step hi hi', rd_at' (e := tDot) hi, rd_at' (e := tDot) hi', deqD, bnot_dec, iadd_nat (by omega)]
      simp only [hi, hi', decide_true, br_true]
      by_cases he : xs[i] = ys[i]
      · simp only [he, not_true, decide_true, decide_false, br_false, Bool.true_and]
        exact reqD_l k xs ys hl hb n (i + 1) (by omega) (by omega)
      · simp only [he, not_false_eq_true, decide_false, decide_true, br_true, Bool.false_and]
    · rw [zall_end (by omega)]
      simp only [hi, decide_false, br_false]
theorem reqD (k : Nat) (xs ys : List Dot) (hb : xs.length < k) (hk : k < 1000000) : ref04_Same.f k xs ys = some (decide (xs = ys)) := by
  rw [ref04_Same.f_eq, ieq_len, bnot_dec]
  by_cases hl : xs.length = ys.length
  · simp only [hl, not_true, decide_false, br_false]
    have := reqD_l k xs ys hl (by omega) k 0 (by omega) (by omega)
    simp only [List.drop_zero, zall_eq xs ys hl] at this
    exact this
  · have : xs ≠ ys := fun e => hl (by rw [e])
    simp only [hl, this, not_false_eq_true, decide_true, decide_false, br_true]
theorem deqV (a b : Vec) : deq tVec a b = decide (a = b) := by
  have h := deq_iff tVec rfl a b
  by_cases he : a = b
  · rw [decide_eq_true he]; exact h.2 he
  · rw [decide_eq_false he, ← Bool.not_eq_true, h]; exact he
theorem same_is (k : Nat) (s t : DSet) (hb : s.2.length < k) (hk : k < 1000000) : dots_Same.f k s t = some (decide (s = t)) := by
  rw [dots_Same.f_eq, deqV, eqD k _ _ hb hk]
  obtain ⟨a, b⟩ := s
  obtain ⟨c, d⟩ := t
  by_cases h1 : a = c <;> by_cases h2 : b = d <;> simp [h1, h2, br_true, br_false, bnd]
theorem rsame_is (k : Nat) (s t : DSet) (hb : s.2.length < k) (hk : k < 1000000) : ref06_Same.f k s t = some (decide (s = t)) := by
  rw [ref06_Same.f_eq, deqV, reqD k _ _ hb hk]
  obtain ⟨a, b⟩ := s
  obtain ⟨c, d⟩ := t
  by_cases h1 : a = c <;> by_cases h2 : b = d <;> simp [h1, h2, br_true, br_false, bnd]
/-! ### Right -/
def vin (v : Vec) (r : Int) : Prop := 0 ≤ vat v r ∧ vat v r ≤ 1048576
theorem rvr_l (k : Nat) (v : Vec) : ∀ (n i : Nat), i ≤ 16 → 16 < n + i → ∃ b, ref05_Right.l2 k n (i : Int) v = some b ∧ (b = true ↔ ∀ r : Nat, i ≤ r → r < 16 → vin v r)
  | 0, i, h, h' => by omega
  | n + 1, i, h, h' => by
    rw [ref05_Right.l2_eq, natOf_nat]
    have e1 : ilt (i : Int) 16 = decide (i < 16) := ilt_nn i 16
    rw [e1, inB_nat]
    by_cases hi : i < 16
    · have hv : rd (.int .i64) v i = vat v (i : Int) := rfl
      rw [hv, iadd_nat (by omega), ilt_dec, ilt_dec]
      simp only [hi, decide_true, br_true]
      by_cases h1 : vat v (i : Int) < 0
      · simp only [h1, decide_true, br_true]
        exact ⟨false, rfl, ⟨fun h => (by cases h), fun h => by have := (h i (Nat.le_refl _) hi).1; omega⟩⟩
      · simp only [h1, decide_false, br_false]
        by_cases h2 : 1048576 < vat v (i : Int)
        · simp only [h2, decide_true, br_true]
          exact ⟨false, rfl, ⟨fun h => (by cases h), fun h => by have := (h i (Nat.le_refl _) hi).2; omega⟩⟩
        · simp only [h2, decide_false, br_false]
          obtain ⟨b, hb, hbi⟩ := rvr_l k v n (i + 1) (by omega) (by omega)
          refine ⟨b, hb, hbi.trans ⟨fun h r hr hr2 => ?_, fun h r hr hr2 => h r (by omega) hr2⟩⟩
          by_cases he : r = i
          · subst he; exact ⟨by omega, by omega⟩
          · exact h r (by omega) hr2
    · simp only [hi, decide_false, br_false]
      exact ⟨true, rfl, ⟨fun _ r hr hr2 => by omega, fun _ => rfl⟩⟩
theorem vok_iff {v : Vec} (hl : v.length = 16) : VOk v ↔ ∀ r : Nat, 0 ≤ r → r < 16 → vin v r := by
  constructor
  · intro h r _ hr; exact ⟨h.lo r (by omega) (by omega), h.hi r (by omega) (by omega)⟩
  · intro h
    refine ⟨hl, fun r h0 h1 => ?_, fun r h0 h1 => ?_⟩
    · obtain ⟨a, rfl⟩ := Int.eq_ofNat_of_zero_le h0; exact (h a (by omega) (by omega)).1
    · obtain ⟨a, rfl⟩ := Int.eq_ofNat_of_zero_le h0; exact (h a (by omega) (by omega)).2
theorem rvr_is (k : Nat) (v : Vec) (hl : v.length = 16) (hk : 17 < k) : ∃ b, ref05_Right.f k v = some b ∧ (b = true ↔ VOk v) := by
  rw [ref05_Right.f_eq, vok_iff hl]
  exact rvr_l k v k 0 (by omega) (by omega)
theorem vr_l (k : Nat) (v : Vec) : ∀ (n i : Nat), i ≤ 16 → 16 < n + i → ∃ b, vec_Right.l2 k n v (i : Int) = some b ∧ (b = true ↔ ∀ r : Nat, i ≤ r → r < 16 → vin v r)
  | 0, i, h, h' => by omega
  | n + 1, i, h, h' => by
    rw [vec_Right.l2_eq, natOf_nat]
    have e1 : ilt (i : Int) 16 = decide (i < 16) := ilt_nn i 16
    rw [e1, inB_nat]
    by_cases hi : i < 16
    · have hv : rd (.int .i64) v i = vat v (i : Int) := rfl
      rw [hv, iadd_nat (by omega), ilt_dec, ilt_dec]
      simp only [hi, decide_true, br_true]
      by_cases h1 : vat v (i : Int) < 0
      · simp only [h1, decide_true, br_true]
        exact ⟨false, rfl, ⟨fun h => (by cases h), fun h => by have := (h i (Nat.le_refl _) hi).1; omega⟩⟩
      · simp only [h1, decide_false, br_false]
        by_cases h2 : 1048576 < vat v (i : Int)
        · simp only [h2, decide_true, br_true]
          exact ⟨false, rfl, ⟨fun h => (by cases h), fun h => by have := (h i (Nat.le_refl _) hi).2; omega⟩⟩
        · simp only [h2, decide_false, br_false]
          obtain ⟨b, hb, hbi⟩ := vr_l k v n (i + 1) (by omega) (by omega)
          refine ⟨b, hb, hbi.trans ⟨fun h r hr hr2 => ?_, fun h r hr hr2 => h r (by omega) hr2⟩⟩
          by_cases he : r = i
          · subst he; exact ⟨by omega, by omega⟩
          · exact h r (by omega) hr2
    · simp only [hi, decide_false, br_false]
      exact ⟨true, rfl, ⟨fun _ r hr hr2 => by omega, fun _ => rfl⟩⟩
theorem vr_is (k : Nat) (v : Vec) (hl : v.length = 16) (hk : 17 < k) : ∃ b, vec_Right.f k v = some b ∧ (b = true ↔ VOk v) := by
  rw [vec_Right.f_eq, vok_iff hl]
  exact vr_l k v k 0 (by omega) (by omega)
/-- One of a set's dots behind gaps, and the one ahead of it. -/
def okAt (s : DSet) (j : Nat) (h : j < s.2.length) : Prop := rightD s.2[j] = true ∧ vat s.1 s.2[j].1 + 1 < s.2[j].2 ∧ (∀ h0 : 0 < j, dotLt (s.2[j - 1]'(by omega)) s.2[j] = true)
theorem can_iff {s : DSet} (hv : VOk s.1) : Can s ↔ ∀ j (h : j < s.2.length), 0 ≤ j → okAt s j h := by
  constructor
  · intro hs j h _
    exact ⟨hs.rt _ (List.getElem_mem h), hs.gap _ (List.getElem_mem h), fun h0 => srt_get hs.srt (by omega) h (by omega)⟩
  · intro h
    refine ⟨hv, fun d hd => ?_, fun d hd => ?_, ?_⟩
    · obtain ⟨j, hj, rfl⟩ := List.getElem_of_mem hd; exact (h j hj (Nat.zero_le _)).1
    · obtain ⟨j, hj, rfl⟩ := List.getElem_of_mem hd; exact (h j hj (Nat.zero_le _)).2.1
    · have key : ∀ t i (hi : i < s.2.length) (hj : i + 1 + t < s.2.length), dotLt s.2[i] s.2[i + 1 + t] = true := by
        intro t
        induction t with
        | zero => intro i hi hj; exact (h (i + 1) hj (Nat.zero_le _)).2.2 (by omega)
        | succ t ih =>
          intro i hi hj
          have h1 := ih i hi (by omega)
          have h2 := (h (i + 1 + (t + 1)) hj (Nat.zero_le _)).2.2 (by omega)
          exact dotLt_swo.trans _ _ _ h1 h2
      rw [List.pairwise_iff_getElem]
      intro i j hi hj hij
      have := key (j - i - 1) i hi (by omega)
      have e : i + 1 + (j - i - 1) = j := by omega
      simp only [e] at this; exact this
theorem cmp_m1 (a b : Dot) : bnot (ieq (cmpD a b) (-1)) = !dotLt a b := by
  have h1 : ∀ x y : Int, cmpI x y = -1 ∨ cmpI x y = 0 ∨ cmpI x y = 1 := fun x y => by unfold cmpI; split <;> (try split) <;> simp
  have h : cmpD a b = -1 ∨ cmpD a b = 0 ∨ cmpD a b = 1 := by unfold cmpD; split <;> exact h1 _ _
  show bnot (ieq (cmpD a b) (-1)) = !decide (cmpD a b < 0)
  rcases h with h | h | h <;> rw [h] <;> rfl
theorem rr_l (k : Nat) (s : DSet) (hl : s.2.length < 1000000) (hv : VOk s.1) : ∀ (n i : Nat), i ≤ s.2.length → s.2.length < n + i → ∃ b, ref06_Right.l4 k n (i : Int) s = some b ∧ (b = true ↔ ∀ j (h : j < s.2.length), i ≤ j → okAt s j h)
  | 0, i, h, h' => by omega
  | n + 1, i, h, h' => by
    rw [ref06_Right.l4_eq, ilt_nat, inL_nat, natOf_nat]
    by_cases hi : i < s.2.length
    · rw [rd_at' (e := tDot) hi, rright_is, iadd_nat (by omega)]
      simp only [hi, decide_true, br_true, bnd_some]
      cases hr : rightD s.2[i] with
      | false =>
        have e : bnot false = true := rfl
        rw [e]
        exact ⟨false, rfl, ⟨fun h => (by cases h), fun h => by rw [(h i hi (Nat.le_refl _)).1] at hr; cases hr⟩⟩
      | true =>
        have e : bnot true = false := rfl
        obtain ⟨r0, r1, r2, r3⟩ := (rightD_iff s.2[i]).1 hr
        have hvv : rd (.int .i64) s.1 (natOf s.2[i].1) = vat s.1 s.2[i].1 := rfl
        rw [e, inB16 r0 r1, hvv, isub_s (by omega) (by omega) (by omega) (by omega), ile_dec]
        simp only [br_true, br_false]
        by_cases hg : s.2[i].2 - 1 ≤ vat s.1 s.2[i].1
        · simp only [hg, decide_true, br_true]
          exact ⟨false, rfl, ⟨fun h => (by cases h), fun h => by have := (h i hi (Nat.le_refl _)).2.1; omega⟩⟩
        · simp only [hg, decide_false, br_false]
          obtain ⟨b, hb, hbi⟩ := rr_l k s hl hv n (i + 1) (by omega) (by omega)
          have step : (∀ h0 : 0 < i, dotLt (s.2[i - 1]'(by omega)) s.2[i] = true) → (b = true ↔ ∀ j (h : j < s.2.length), i ≤ j → okAt s j h) := fun hlt => hbi.trans ⟨fun h j hj hij => by
            by_cases he : j = i
            · subst he; exact ⟨hr, by omega, hlt⟩
            · exact h j hj (by omega), fun h j hj hij => h j hj (by omega)⟩
          by_cases h0 : 0 < i
          · have e2 : ilt 0 (i : Int) = true := by simp [ilt]; omega
            have e3 : isub .i64 (i : Int) 1 = ((i - 1 : Nat) : Int) := by rw [isub_s (by omega) (by omega) (by omega) (by omega)]; omega
            have hi1 : i - 1 < s.2.length := by omega
            rw [e2, e3, inL_nat, natOf_nat, rd_at' (e := tDot) hi1, rcmp_is]
            simp only [hi1, decide_true, br_true, bnd_some, cmp_m1]
            cases hc : dotLt s.2[i - 1] s.2[i] with
            | true => exact ⟨b, hb, step fun _ => hc⟩
            | false => exact ⟨false, rfl, ⟨fun h => (by cases h), fun h => by have := (h i hi (Nat.le_refl _)).2.2 h0; rw [hc] at this; cases this⟩⟩
          · have e2 : ilt 0 (i : Int) = false := by simp [ilt]; omega
            rw [e2]
            exact ⟨b, hb, step fun h => absurd h h0⟩
    · simp only [hi, decide_false, br_false]
      exact ⟨true, rfl, ⟨fun _ j hj hij => by omega, fun _ => rfl⟩⟩
theorem rr_is (k : Nat) (s : DSet) (hl : s.1.length = 16) (hk : 5000 < k) (hk2 : k < 1000000) : ∃ b, ref06_Right.f k s = some b ∧ (b = true ↔ Can s ∧ s.2.length ≤ 4096) := by
  obtain ⟨b, hb, hbi⟩ := rvr_is k s.1 hl (by omega)
  rw [ref06_Right.f_eq, hb]
  simp only [bnd_some]
  cases b with
  | false => exact ⟨false, rfl, ⟨fun h => (by cases h), fun h => hbi.2 h.1.vok⟩⟩
  | true =>
    have hv := hbi.1 rfl
    have e : bnot true = false := rfl
    have e2 : ilt 4096 (ilen s.2) = decide (4096 < s.2.length) := ilt_nat 4096 s.2
    rw [e, e2]
    simp only [br_false]
    by_cases h : 4096 < s.2.length
    · simp only [h, decide_true, br_true]
      exact ⟨false, rfl, ⟨fun h => (by cases h), fun h => by omega⟩⟩
    · simp only [h, decide_false, br_false]
      obtain ⟨b, hb, hbi⟩ := rr_l k s (by omega) hv k 0 (by omega) (by omega)
      exact ⟨b, hb, hbi.trans ⟨fun h2 => ⟨(can_iff hv).2 h2, by omega⟩, fun h2 => (can_iff hv).1 h2.1⟩⟩
theorem rr_true (k : Nat) {s : DSet} (hs : Can s) (hl : s.2.length ≤ 4096) (hk : 5000 < k) (hk2 : k < 1000000) : ref06_Right.f k s = some true := by
  obtain ⟨b, hb, hbi⟩ := rr_is k s hs.vok.len hk hk2
  rw [hb, hbi.2 ⟨hs, hl⟩]
end Go.Proofs.Ytennedlpmacicaa
end
section
/- Whether a set is right, how many dots there are, and the next one's number. -/
namespace Go.Proofs.Ytennedlpmacicaa
open Pal
theorem dr_l (k : Nat) (s : DSet) (hl : s.2.length < 1000000) (hv : VOk s.1) : ∀ (n i : Nat), i ≤ s.2.length → s.2.length < n + i → ∃ b, dots_Right.l4 (k + 3) n s.2 (ilen s.2) (i : Int) s = some b ∧ (b = true ↔ ∀ j (h : j < s.2.length), i ≤ j → okAt s j h)
  | 0, i, h, h' => by omega
  | n + 1, i, h, h' => by
    rw [dots_Right.l4_eq, ilt_nat, inL_nat, natOf_nat]
    by_cases hi : i < s.2.length
    · rw [rd_at' (e := tDot) hi, right_is, iadd_nat (by omega)]
      simp only [hi, decide_true, br_true, bnd_some]
      cases hr : rightD s.2[i] with
      | false =>
        have e : bnot false = true := rfl
        rw [e]
        exact ⟨false, rfl, ⟨fun h => (by cases h), fun h => by rw [(h i hi (Nat.le_refl _)).1] at hr; cases hr⟩⟩
      | true =>
        have e : bnot true = false := rfl
        obtain ⟨r0, r1, r2, r3⟩ := (rightD_iff s.2[i]).1 hr
        have hvv : rd (.int .i64) s.1 (natOf s.2[i].1) = vat s.1 s.2[i].1 := rfl
        have v0 := hv.lo s.2[i].1 r0 r1
        have v1 := hv.hi s.2[i].1 r0 r1
        rw [e, inB16 r0 r1, hvv, iadd_s (by omega) (by omega) (by omega) (by omega), ile_dec]
        simp only [br_true, br_false]
        by_cases hg : s.2[i].2 ≤ vat s.1 s.2[i].1 + 1
        · simp only [hg, decide_true, br_true]
          exact ⟨false, rfl, ⟨fun h => (by cases h), fun h => by have := (h i hi (Nat.le_refl _)).2.1; omega⟩⟩
        · simp only [hg, decide_false, br_false]
          obtain ⟨b, hb, hbi⟩ := dr_l k s hl hv n (i + 1) (by omega) (by omega)
          have step : (∀ h0 : 0 < i, dotLt (s.2[i - 1]'(by omega)) s.2[i] = true) → (b = true ↔ ∀ j (h : j < s.2.length), i ≤ j → okAt s j h) := fun hlt => hbi.trans ⟨fun h j hj hij => by
            by_cases he : j = i
            · subst he; exact ⟨hr, by omega, hlt⟩
            · exact h j hj (by omega), fun h j hj hij => h j hj (by omega)⟩
          by_cases h0 : 0 < i
          · have e2 : ilt 0 (i : Int) = true := by simp [ilt]; omega
            have e3 : isub .i64 (i : Int) 1 = ((i - 1 : Nat) : Int) := by rw [isub_s (by omega) (by omega) (by omega) (by omega)]; omega
            have hi1 : i - 1 < s.2.length := by omega
            have e4 : ∀ a b : Dot, ile 0 (cmpD a b) = !dotLt a b := fun a b => by
              show decide (0 ≤ cmpD a b) = !decide (cmpD a b < 0)
              by_cases h : cmpD a b < 0
              · rw [decide_eq_true h, decide_eq_false (by omega)]; rfl
              · rw [decide_eq_false h, decide_eq_true (by omega)]; rfl
            rw [e2, e3, inL_nat, natOf_nat, rd_at' (e := tDot) hi1, cmpD_is]
            simp only [hi1, decide_true, br_true, bnd_some, e4]
            cases hc : dotLt s.2[i - 1] s.2[i] with
            | true => exact ⟨b, hb, step fun _ => hc⟩
            | false => exact ⟨false, rfl, ⟨fun h => (by cases h), fun h => by have := (h i hi (Nat.le_refl _)).2.2 h0; rw [hc] at this; cases this⟩⟩
          · have e2 : ilt 0 (i : Int) = false := by simp [ilt]; omega
            rw [e2]
            exact ⟨b, hb, step fun h => absurd h h0⟩
    · simp only [hi, decide_false, br_false]
      exact ⟨true, rfl, ⟨fun _ j hj hij => by omega, fun _ => rfl⟩⟩
theorem dr_is (k : Nat) (s : DSet) (hl : s.1.length = 16) (hk : 5000 < k) (hk2 : k < 1000000) : ∃ b, dots_Right.f k s = some b ∧ (b = true ↔ Can s ∧ s.2.length ≤ 4096) := by
  obtain ⟨b, hb, hbi⟩ := vr_is k s.1 hl (by omega)
  rw [dots_Right.f_eq, hb]
  simp only [bnd_some]
  cases b with
  | false => exact ⟨false, rfl, ⟨fun h => (by cases h), fun h => hbi.2 h.1.vok⟩⟩
  | true =>
    have hv := hbi.1 rfl
    have e : bnot true = false := rfl
    have e2 : ilt 4096 (ilen s.2) = decide (4096 < s.2.length) := ilt_nat 4096 s.2
    rw [e, e2]
    simp only [br_false]
    by_cases h : 4096 < s.2.length
    · simp only [h, decide_true, br_true]
      exact ⟨false, rfl, ⟨fun h => (by cases h), fun h => by omega⟩⟩
    · simp only [h, decide_false, br_false]
      obtain ⟨q, rfl⟩ : ∃ q, k = q + 3 := ⟨k - 3, by omega⟩
      obtain ⟨b, hb, hbi⟩ := dr_l q s (by omega) hv (q + 3) 0 (by omega) (by omega)
      exact ⟨b, hb, hbi.trans ⟨fun h2 => ⟨(can_iff hv).2 h2, by omega⟩, fun h2 => (can_iff hv).1 h2.1⟩⟩
/-! ### The next one's number -/
def lastN (r : Int) (n : Int) (l : List Dot) : Int := l.foldl (fun n d => if d.1 = r then d.2 else n) n
def maxN (r : Int) (n : Int) (l : List Dot) : Int := l.foldl (fun n d => if d.1 = r ∧ n < d.2 then d.2 else n) n
theorem last_max (r : Int) : ∀ (l : List Dot) (n : Int), l.Pairwise (fun a b => dotLt a b = true) → (∀ d ∈ l, d.1 = r → n < d.2) → lastN r n l = maxN r n l
  | [], _, _, _ => rfl
  | d :: l, n, hs, hn => by
    have hs' := List.pairwise_cons.1 hs
    show lastN r (if d.1 = r then d.2 else n) l = maxN r (if d.1 = r ∧ n < d.2 then d.2 else n) l
    by_cases h : d.1 = r
    · have h2 := hn d (by simp) h
      rw [if_pos h, if_pos ⟨h, h2⟩]
      refine last_max r l _ hs'.2 fun e he her => ?_
      have := (dotLt_iff d e).1 (hs'.1 e he)
      omega
    · rw [if_neg h, if_neg (fun hh => h hh.1)]
      exact last_max r l n hs'.2 fun e he her => hn e (List.mem_cons_of_mem _ he) her
theorem next_l (k : Nat) (l : List Dot) (r : Int) (hl : l.length < 1000000) : ∀ (n i : Nat) (x : Int), i ≤ l.length → l.length < n + i → dots_Next.l5 k n r x l (ilen l) (i : Int) = some (iadd .i64 (lastN r x (l.drop i)) 1)
  | 0, i, _, h, h' => by omega
  | n + 1, i, x, h, h' => by
    rw [dots_Next.l5_eq, ilt_nat, inL_nat, natOf_nat]
    by_cases hi : i < l.length
    · rw [rd_at' (e := tDot) hi, iadd_nat (by omega), ieq_dec, List.drop_eq_getElem_cons hi]
      simp only [hi, decide_true, br_true]
      show _ = some (iadd .i64 (lastN r (if l[i].1 = r then l[i].2 else x) (l.drop (i + 1))) 1)
      by_cases he : l[i].1 = r
      · simp only [he, decide_true, br_true, if_true]; exact next_l k l r hl n (i + 1) _ (by omega) (by omega)
      · simp only [he, decide_false, br_false, if_false]; exact next_l k l r hl n (i + 1) _ (by omega) (by omega)
    · rw [List.drop_of_length_le (by omega)]
      simp only [hi, decide_false, br_false]; rfl
theorem rnext_l (k : Nat) (s : DSet) (r : Int) (hl : s.2.length < 1000000) : ∀ (n i : Nat) (x : Int), i ≤ s.2.length → s.2.length < n + i → ref06_Next.l5 k n r x (i : Int) s = some (iadd .i64 (maxN r x (s.2.drop i)) 1)
  | 0, i, _, h, h' => by omega
  | n + 1, i, x, h, h' => by
    rw [ref06_Next.l5_eq, ilt_nat, inL_nat, natOf_nat]
    by_cases hi : i < s.2.length
    · rw [rd_at' (e := tDot) hi, iadd_nat (by omega), ieq_dec, ilt_dec, List.drop_eq_getElem_cons hi]
      simp only [hi, decide_true, br_true]
      show _ = some (iadd .i64 (maxN r (if s.2[i].1 = r ∧ x < s.2[i].2 then s.2[i].2 else x) (s.2.drop (i + 1))) 1)
      by_cases he : s.2[i].1 = r
      · by_cases h2 : x < s.2[i].2
        · simp only [he, h2, decide_true, br_true, and_self, if_true]; exact rnext_l k s r hl n (i + 1) _ (by omega) (by omega)
        · simp only [he, h2, decide_true, decide_false, br_true, br_false, and_false, if_false]; exact rnext_l k s r hl n (i + 1) _ (by omega) (by omega)
      · simp only [he, decide_false, br_false, false_and, if_false]; exact rnext_l k s r hl n (i + 1) _ (by omega) (by omega)
    · rw [List.drop_of_length_le (by omega)]
      simp only [hi, decide_false, br_false]; rfl
theorem next_same (k : Nat) (s : DSet) (r : Int) (hs : Can s) (hl : s.2.length < k) (hk : k < 1000000) : ∃ n, dots_Next.f k s r = some n ∧ ref06_Next.f k s r = some n := by
  rw [dots_Next.f_eq, ref06_Next.f_eq, ilt_dec, ilt_dec, ile_dec]
  by_cases h0 : r < 0
  · simp only [h0, decide_true, br_true]; exact ⟨0, rfl, rfl⟩
  · by_cases h1 : 16 ≤ r
    · have h2 : 15 < r := by omega
      simp only [h0, h1, h2, decide_true, decide_false, br_true, br_false]; exact ⟨0, rfl, rfl⟩
    · have h2 : ¬ 15 < r := by omega
      rw [inB16 (by omega) (by omega)]
      simp only [h0, h1, h2, decide_false, br_true, br_false]
      have e1 := next_l k s.2 r (by omega) k 0 (rd (.int .i64) s.1 (natOf r)) (by omega) (by omega)
      have e2 := rnext_l k s r (by omega) k 0 (rd (.int .i64) s.1 (natOf r)) (by omega) (by omega)
      rw [List.drop_zero] at e1 e2
      rw [last_max r s.2 _ hs.srt (fun d hd hr => by
        have := hs.gap d hd
        rw [hr] at this
        have e : rd (.int .i64) s.1 (natOf r) = vat s.1 r := rfl
        rw [e]; omega)] at e1
      exact ⟨_, e1, e2⟩
/-! ### How many -/
theorem sum_step {v : Vec} {i : Nat} (h : i < v.length) : (v.drop i).sum = v[i] + (v.drop (i + 1)).sum := by rw [List.drop_eq_getElem_cons h, List.sum_cons]
theorem vcount_l (k : Nat) (v : Vec) (hv : VOk v) : ∀ (n i : Nat) (x : Int), i ≤ 16 → 16 < n + i → 0 ≤ x → x ≤ 1048576 * i → vec_Count.l3 k n x v (i : Int) = some (x + (v.drop i).sum) ∧ x + (v.drop i).sum ≤ 1048576 * 16 ∧ 0 ≤ x + (v.drop i).sum
  | 0, i, _, h, h', _, _ => by omega
  | n + 1, i, x, h, h', h0, h1 => by
    rw [vec_Count.l3_eq, natOf_nat]
    have e1 : ilt (i : Int) 16 = decide (i < 16) := ilt_nn i 16
    rw [e1, inB_nat]
    have hlen := hv.len
    by_cases hi : i < 16
    · have hv' : rd (.int .i64) v i = v[i] := rd_at' (e := .int .i64) (by omega)
      have hvat : vat v (i : Int) = v[i] := vat_get (by omega)
      have a := hv.lo i (by omega) (by omega)
      have b := hv.hi i (by omega) (by omega)
      rw [hvat] at a b
      have hmax : imax 0 v[i] = v[i] := by unfold imax; split <;> omega
      rw [hv', hmax, iadd_s (by omega) (by omega) (by omega) (by omega), iadd_nat (by omega), sum_step (by omega : i < v.length)]
      simp only [hi, decide_true, br_true]
      have := vcount_l k v hv n (i + 1) (x + v[i]) (by omega) (by omega) (by omega) (by omega)
      rw [Int.add_assoc] at this
      exact this
    · rw [List.drop_of_length_le (by omega)]
      simp only [hi, decide_false, br_false, List.sum_nil, Int.add_zero]
      exact ⟨trivial, by omega, h0⟩
theorem lcount_l (k : Nat) (s : DSet) (hv : VOk s.1) (c : Int) (c0 : 0 ≤ c) (c1 : c ≤ 1000000) : ∀ (n i : Nat) (x : Int), i ≤ 16 → 16 < n + i → 0 ≤ x → x ≤ c + 1048576 * i → law06_count.l3 k n x (i : Int) s = some (x + (s.1.drop i).sum)
  | 0, i, _, h, h', _, _ => by omega
  | n + 1, i, x, h, h', h0, h1 => by
    rw [law06_count.l3_eq, natOf_nat]
    have e1 : ilt (i : Int) 16 = decide (i < 16) := ilt_nn i 16
    rw [e1, inB_nat]
    have hlen := hv.len
    by_cases hi : i < 16
    · have hv' : rd (.int .i64) s.1 i = s.1[i] := rd_at' (e := .int .i64) (by omega)
      have hvat : vat s.1 (i : Int) = s.1[i] := vat_get (by omega)
      have a := hv.lo i (by omega) (by omega)
      have b := hv.hi i (by omega) (by omega)
      rw [hvat] at a b
      rw [hv', iadd_s (by omega) (by omega) (by omega) (by omega), iadd_nat (by omega), sum_step (by omega : i < s.1.length)]
      simp only [hi, decide_true, br_true]
      rw [lcount_l k s hv c c0 c1 n (i + 1) (x + s.1[i]) (by omega) (by omega) (by omega) (by omega), Int.add_assoc]
    · rw [List.drop_of_length_le (by omega)]
      simp only [hi, decide_false, br_false, List.sum_nil, Int.add_zero]
theorem count_same (k : Nat) (s : DSet) (hs : Can s) (hl : s.2.length ≤ 1000000) (hk : 17 < k) : ∃ n, dots_Count.f k s = some n ∧ law06_count.f k s = some n := by
  obtain ⟨a, b, c⟩ := vcount_l k s.1 hs.vok k 0 0 (by omega) (by omega) (by omega) (by omega)
  have e := lcount_l k s hs.vok (ilen s.2) (by unfold ilen; omega) (by unfold ilen; omega) k 0 (ilen s.2) (by omega) (by omega) (by unfold ilen; omega) (by omega)
  rw [List.drop_zero] at a b c e
  rw [Int.zero_add] at a b c
  refine ⟨ilen s.2 + s.1.sum, ?_, ?_⟩
  · rw [dots_Count.f_eq, vec_Count.f_eq]
    rw [show vec_Count.l3 k k 0 s.1 0 = _ from a]
    simp only [bnd_some]
    rw [iadd_s (by omega) (by omega) (by unfold ilen; omega) (by unfold ilen; omega), Int.add_comm]
  · rw [law06_count.f_eq]; exact e
end Go.Proofs.Ytennedlpmacicaa
end
section
/- Unions, and what is within what. -/
namespace Go.Proofs.Ytennedlpmacicaa
open Pal
def vmax (v u : Vec) : Vec := (List.range 16).map fun (i : Nat) => max (vat v (i : Int)) (vat u (i : Int))
theorem vmax_len (v u : Vec) : (vmax v u).length = 16 := by simp [vmax]
theorem vmax_at (v u : Vec) (r : Int) (h0 : 0 ≤ r) (h1 : r < 16) : vat (vmax v u) r = max (vat v r) (vat u r) := by
  obtain ⟨a, rfl⟩ := Int.eq_ofNat_of_zero_le h0
  rw [vat_get (by rw [vmax_len]; omega)]
  simp [vmax]
theorem vmax_ok {v u : Vec} (hv : VOk v) (hu : VOk u) : VOk (vmax v u) :=
  ⟨vmax_len v u, fun r h0 h1 => by rw [vmax_at v u r h0 h1]; have := hv.lo r h0 h1; omega, fun r h0 h1 => by rw [vmax_at v u r h0 h1]; have := hv.hi r h0 h1; have := hu.hi r h0 h1; omega⟩
/-- Up to i the greater ones, then those of the first. -/
def upTo (v u m : Vec) (i : Nat) : Prop := m.length = 16 ∧ ∀ r : Int, 0 ≤ r → r < 16 → vat m r = if r < (i : Int) then max (vat v r) (vat u r) else vat v r
theorem upTo_end {v u m : Vec} (h : upTo v u m 16) : m = vmax v u := vec_ext h.1 (vmax_len v u) fun r h0 h1 => by rw [h.2 r h0 h1, if_pos (by omega), vmax_at v u r h0 h1]
theorem upTo_step {v u m : Vec} {i : Nat} {x : Int} (h : upTo v u m i) (hi : i < 16) (hx : x = max (vat v (i : Int)) (vat u (i : Int))) : upTo v u (upd m i x) (i + 1) := by
  refine ⟨by simp [upd, h.1], fun r h0 h1 => ?_⟩
  have := vat_upd (v := m) (r := (i : Int)) (x := x) (by omega) (by rw [h.1]; omega) r h0
  rw [natOf_nat] at this
  rw [this]
  by_cases e : r = (i : Int)
  · rw [if_pos e, if_pos (by omega), hx, e]
  · rw [if_neg e, h.2 r h0 h1]
    by_cases e2 : r < (i : Int)
    · rw [if_pos e2, if_pos (by omega)]
    · rw [if_neg e2, if_neg (by omega)]
theorem upTo_skip {v u m : Vec} {i : Nat} (h : upTo v u m i) (hx : vat v (i : Int) = max (vat v (i : Int)) (vat u (i : Int))) : upTo v u m (i + 1) := by
  refine ⟨h.1, fun r h0 h1 => ?_⟩
  rw [h.2 r h0 h1]
  by_cases e : r = (i : Int)
  · subst e; rw [if_neg (by omega), if_pos (by omega)]; exact hx
  · by_cases e2 : r < (i : Int)
    · rw [if_pos e2, if_pos (by omega)]
    · rw [if_neg e2, if_neg (by omega)]
theorem imax_is (a b : Int) : imax a b = max a b := by unfold imax; split <;> omega
theorem both_l (k : Nat) (v u za : Vec) : ∀ (n i : Nat) (m : Vec), i ≤ 16 → 16 < n + i → upTo v u m i → vec_both_119.l2 k n (i : Int) m u za = some (vmax v u)
  | 0, i, _, h, h', _ => by omega
  | n + 1, i, m, h, h', hm => by
    rw [vec_both_119.l2_eq, natOf_nat]
    have e1 : ilt (i : Int) 16 = decide (i < 16) := ilt_nn i 16
    rw [e1, inB_nat]
    by_cases hi : i < 16
    · have h1 : rd (.int .i64) m i = vat m (i : Int) := rfl
      have h2 : rd (.int .i64) u i = vat u (i : Int) := rfl
      have h3 : vat m (i : Int) = vat v (i : Int) := by rw [hm.2 i (by omega) (by omega), if_neg (by omega)]
      rw [h1, h2, h3, vec_Join_1.f_eq, imax_is, iadd_nat (by omega)]
      simp only [hi, decide_true, br_true, bnd_some]
      exact both_l k v u za n (i + 1) _ (by omega) (by omega) (upTo_step hm hi rfl)
    · have : i = 16 := by omega
      subst this
      simp only [Nat.lt_irrefl, decide_false, br_false]
      rw [upTo_end hm]
theorem join_is (k : Nat) (v u : Vec) (hv : v.length = 16) (hk : 17 < k) : vec_Join.f k v u = some (vmax v u) := by
  rw [vec_Join.f_eq, vec_both_119.f_eq]
  have := both_l k v u (zarr 16 0) k 0 v (by omega) (by omega) ⟨hv, fun r h0 _ => by rw [if_neg (by omega)]⟩
  rw [show vec_both_119.l2 k k 0 v u (zarr 16 0) = _ from this]; rfl
theorem rjoin_l (k : Nat) (v u za : Vec) : ∀ (n i : Nat) (m : Vec), i ≤ 16 → 16 < n + i → upTo v u m i → ref05_Join.l3 k n (i : Int) v u za m = some (vmax v u)
  | 0, i, _, h, h', _ => by omega
  | n + 1, i, m, h, h', hm => by
    rw [ref05_Join.l3_eq, natOf_nat]
    have e1 : ilt (i : Int) 16 = decide (i < 16) := ilt_nn i 16
    rw [e1, inB_nat]
    by_cases hi : i < 16
    · have h1 : rd (.int .i64) v i = vat v (i : Int) := rfl
      have h2 : rd (.int .i64) u i = vat u (i : Int) := rfl
      rw [h1, h2, iadd_nat (by omega), ilt_dec]
      simp only [hi, decide_true, br_true]
      by_cases hlt : vat v (i : Int) < vat u (i : Int)
      · simp only [hlt, decide_true, br_true]
        exact rjoin_l k v u za n (i + 1) _ (by omega) (by omega) (upTo_step hm hi (by omega))
      · simp only [hlt, decide_false, br_false]
        exact rjoin_l k v u za n (i + 1) _ (by omega) (by omega) (upTo_skip hm (by omega))
    · have : i = 16 := by omega
      subst this
      simp only [Nat.lt_irrefl, decide_false, br_false]
      rw [upTo_end hm]
theorem rjoin_is (k : Nat) (v u : Vec) (hv : v.length = 16) (hk : 17 < k) : ref05_Join.f k v u = some (vmax v u) := by
  rw [ref05_Join.f_eq]
  exact rjoin_l k v u (zarr 16 0) k 0 v (by omega) (by omega) ⟨hv, fun r h0 _ => by rw [if_neg (by omega)]⟩
/-! ### Unions -/
def unionD (s t : DSet) : DSet := mk (vmax s.1 t.1) (isort dotLt (s.2 ++ t.2))
theorem unionD_can {s t : DSet} (hs : Can s) (ht : Can t) : Can (unionD s t) ∧ (∀ x, Mem (unionD s t) x ↔ Mem s x ∨ Mem t x) ∧ (unionD s t).2.length ≤ s.2.length + t.2.length := by
  have hmem : ∀ d, d ∈ isort dotLt (s.2 ++ t.2) ↔ d ∈ s.2 ∨ d ∈ t.2 := fun d => by rw [(isort_perm dotLt _).mem_iff, List.mem_append]
  obtain ⟨h1, h2, h3, _⟩ := mk_can (vmax_ok hs.vok ht.vok) (isort dotLt (s.2 ++ t.2)) (fun d hd => ((hmem d).1 hd).elim (hs.rt d) (ht.rt d)) (isort_sorted dotLt_swo _)
  refine ⟨h1, fun x => ?_, ?_⟩
  · rw [show Mem (unionD s t) x ↔ _ from h2 x, hmem]
    constructor
    · rintro ⟨a, b | b | b⟩
      · obtain ⟨q0, q1, _, _⟩ := (rightD_iff x).1 a
        rw [vmax_at _ _ x.1 q0 q1] at b
        rcases (by omega : x.2 ≤ vat s.1 x.1 ∨ x.2 ≤ vat t.1 x.1) with h | h
        · exact .inl ⟨a, .inl h⟩
        · exact .inr ⟨a, .inl h⟩
      · exact .inl ⟨a, .inr b⟩
      · exact .inr ⟨a, .inr b⟩
    · rintro (⟨a, b⟩ | ⟨a, b⟩)
      · obtain ⟨q0, q1, _, _⟩ := (rightD_iff x).1 a
        refine ⟨a, b.imp (fun h => ?_) .inl⟩
        rw [vmax_at _ _ x.1 q0 q1]; omega
      · obtain ⟨q0, q1, _, _⟩ := (rightD_iff x).1 a
        refine ⟨a, b.imp (fun h => ?_) .inr⟩
        rw [vmax_at _ _ x.1 q0 q1]; omega
  · refine Nat.le_trans h3 ?_
    rw [(isort_perm dotLt _).length_eq, List.length_append]; exact Nat.le_refl _
theorem concat_is (k : Nat) (a b : List Dot) (ha : a.length ≤ 1000000) (hb : b.length ≤ 1000000) (hk : 3 ≤ k) : slices_Concat_api_Dot_api_Dot.f k (a :: (b :: [])) = some (a ++ b) := by
  obtain ⟨q, rfl⟩ : ∃ q, k = q + 1 + 1 + 1 := ⟨k - 3, by omega⟩
  rw [slices_Concat_api_Dot_api_Dot.f_eq, slices_Concat_api_Dot_api_Dot.l3_eq, slices_Concat_api_Dot_api_Dot.l3_eq, slices_Concat_api_Dot_api_Dot.l3_eq]
  rw [slices_Concat_api_Dot_api_Dot.l11_eq, slices_Concat_api_Dot_api_Dot.l11_eq, slices_Concat_api_Dot_api_Dot.l11_eq]
  have i1 : iadd .i64 0 1 = 1 := rfl
  have i2 : iadd .i64 1 1 = 2 := rfl
  have l2 : ilen (a :: (b :: [])) = 2 := rfl
  have r0 : rd (.slc tDot) (a :: (b :: [])) (natOf 0) = a := rfl
  have r1 : rd (.slc tDot) (a :: (b :: [])) (natOf 1) = b := rfl
  have n0 : inL 0 (a :: (b :: [])) = true := rfl
  have n1 : inL 1 (a :: (b :: [])) = true := rfl
  have t0 : ilt 0 2 = true := rfl
  have t1 : ilt 1 2 = true := rfl
  have t2 : ilt 2 2 = false := rfl
  have s0 : iadd .i64 0 (ilen a) = ilen a := by rw [iadd_s (by omega) (by omega) (by unfold ilen; omega) (by unfold ilen; omega), Int.zero_add]
  have s1 : iadd .i64 (ilen a) (ilen b) = ilen a + ilen b := iadd_s (by unfold ilen; omega) (by unfold ilen; omega) (by unfold ilen; omega) (by unfold ilen; omega)
  have g0 : ilt (ilen a) 0 = false := decide_eq_false (by unfold ilen; omega)
  have g1 : ilt (ilen a + ilen b) 0 = false := decide_eq_false (by unfold ilen; omega)
  have g2 : ilt 4294967296 (ilen a + ilen b) = false := decide_eq_false (by unfold ilen; omega)
  have m0 : room ([] : List Int) ([] : List Int) = true := rfl
  have m1 : room ([] : List Dot) a = true := decide_eq_true (by show 0 + a.length ≤ 4294967296; omega)
  have m2 : room (app ([] : List Dot) a) b = true := decide_eq_true (by show a.length + b.length ≤ 4294967296; omega)
  rw [i1, l2, i2, r0, r1, n0, n1, t0, t1, t2, s0, s1, g0, g1, g2, m0, m1, m2]
  simp only [br_true, br_false, app, List.nil_append]
theorem union_is (k : Nat) (s t : DSet) (hs : Can s) (ht : Can t) (hl : s.2.length + t.2.length < k) (h17 : 17 < k) (hk : k < 1000000) : dots_Union.f k s t = some (unionD s t) := by
  have hmem : ∀ d, d ∈ isort dotLt (s.2 ++ t.2) ↔ d ∈ s.2 ∨ d ∈ t.2 := fun d => by rw [(isort_perm dotLt _).mem_iff, List.mem_append]
  rw [dots_Union.f_eq, concat_is k _ _ (by omega) (by omega) (by omega)]
  simp only [bnd_some]
  have e : room ([] : List Int) (s.2 ++ t.2) = true := by simp [room]; omega
  rw [e, join_is k _ _ hs.vok.len h17]
  simp only [br_true, bnd_some]
  rw [made_is k _ (by rw [(isort_perm dotLt _).length_eq, List.length_append]; exact hl) hk (fun d hd => ((hmem d).1 hd).elim (hs.rt d) (ht.rt d)) (isort_sorted dotLt_swo _) _ (vmax_ok hs.vok ht.vok)]
  rfl
theorem puts_can : ∀ (l : List Dot) (s : DSet), Can s → (∀ d ∈ l, rightD d = true) → Can (l.foldl putD s) ∧ (∀ x, Mem (l.foldl putD s) x ↔ Mem s x ∨ x ∈ l) ∧ (l.foldl putD s).2.length ≤ s.2.length + l.length
  | [], s, hs, _ => ⟨hs, fun x => by simp, Nat.le_refl _⟩
  | d :: l, s, hs, hr => by
    obtain ⟨a, b, c⟩ := putD_can hs d
    obtain ⟨p, q, r⟩ := puts_can l (putD s d) a (fun e he => hr e (List.mem_cons_of_mem _ he))
    refine ⟨p, fun x => ?_, by simp only [List.length_cons]; show ((d :: l).foldl putD s).2.length ≤ _; simp only [List.foldl_cons]; omega⟩
    show Mem (l.foldl putD (putD s d)) x ↔ _
    rw [q, b, List.mem_cons]
    have hd := hr d (by simp)
    constructor
    · rintro ((h | ⟨_, h⟩) | h)
      · exact .inl h
      · exact .inr (.inl h)
      · exact .inr (.inr h)
    · rintro (h | h | h)
      · exact .inl (.inl h)
      · exact .inl (.inr ⟨hd, h⟩)
      · exact .inr h
theorem runion_l (k : Nat) (t : DSet) (hk : k < 1000000) (htl : t.2.length < 1000000) (hr : ∀ d ∈ t.2, rightD d = true) (za : Vec) (zb : List Dot) : ∀ (n i : Nat) (s : DSet), Can s → i ≤ t.2.length → t.2.length < n + i → s.2.length + (t.2.length - i) < k → ref06_Union.l3 k n (i : Int) t za zb s = some ((t.2.drop i).foldl putD s)
  | 0, i, _, _, h, h', _ => by omega
  | n + 1, i, s, hs, h, h', hl => by
    rw [ref06_Union.l3_eq, ilt_nat, inL_nat, natOf_nat]
    by_cases hi : i < t.2.length
    · rw [rd_at' (e := tDot) hi, iadd_nat (by omega), rput_is k s t.2[i] (by omega) hk hs, List.drop_eq_getElem_cons hi]
      simp only [hi, decide_true, br_true, bnd_some, List.foldl_cons]
      obtain ⟨a, _, c⟩ := putD_can hs t.2[i]
      exact runion_l k t hk htl hr za zb n (i + 1) _ a (by omega) (by omega) (by omega)
    · rw [List.drop_of_length_le (by omega)]
      simp only [hi, decide_false, br_false, List.foldl_nil]
theorem runion_is (k : Nat) (s t : DSet) (hs : Can s) (ht : Can t) (hl : s.2.length + t.2.length < k) (h17 : 17 < k) (hk : k < 1000000) : ref06_Union.f k s t = some (unionD s t) := by
  obtain ⟨h1, h2, h3, _⟩ := mk_can (vmax_ok hs.vok ht.vok) s.2 hs.rt (hs.srt.imp dotLt_asym)
  obtain ⟨p, q, _⟩ := puts_can t.2 _ h1 ht.rt
  obtain ⟨u1, u2, _⟩ := unionD_can hs ht
  rw [ref06_Union.f_eq, rjoin_is k _ _ hs.vok.len h17]
  simp only [bnd_some]
  rw [filled_is k (vmax s.1 t.1, s.2) (by show s.2.length < k; omega) hk hs.rt hs.srt (vmax_ok hs.vok ht.vok)]
  simp only [bnd_some]
  have := runion_l k t hk (by omega) ht.rt (zarr 16 0) [] k 0 _ h1 (by omega) (by omega) (by omega)
  rw [List.drop_zero] at this
  rw [show ref06_Union.l3 k k 0 t (zarr 16 0) [] (mk (vmax s.1 t.1) s.2) = _ from this]
  congr 1
  refine can_unique p u1 fun x => ?_
  rw [q, h2, u2]
  constructor
  · rintro (⟨a, b | b⟩ | b)
    · obtain ⟨q0, q1, _, _⟩ := (rightD_iff x).1 a
      rw [vmax_at _ _ x.1 q0 q1] at b
      rcases (by omega : x.2 ≤ vat s.1 x.1 ∨ x.2 ≤ vat t.1 x.1) with h | h
      · exact .inl ⟨a, .inl h⟩
      · exact .inr ⟨a, .inl h⟩
    · exact .inl ⟨a, .inr b⟩
    · exact .inr ⟨ht.rt x b, .inr b⟩
  · rintro (⟨a, b⟩ | ⟨a, b⟩)
    · obtain ⟨q0, q1, _, _⟩ := (rightD_iff x).1 a
      refine .inl ⟨a, b.imp (fun h => ?_) id⟩
      rw [vmax_at _ _ x.1 q0 q1]; omega
    · obtain ⟨q0, q1, _, _⟩ := (rightD_iff x).1 a
      rcases b with h | h
      · refine .inl ⟨a, .inl ?_⟩
        rw [vmax_at _ _ x.1 q0 q1]; omega
      · exact .inr h
/-! ### Within -/
theorem within_is (k : Nat) (s t : DSet) (hs : Can s) (ht : Can t) (hl : s.2.length + t.2.length < k) (h17 : 17 < k) (hk : k < 1000000) : dots_Within.f k s t = some (decide (unionD s t = t)) := by
  obtain ⟨_, _, u3⟩ := unionD_can hs ht
  rw [dots_Within.f_eq, union_is k s t hs ht hl h17 hk]
  simp only [bnd_some]
  rw [same_is k _ _ (by omega) hk]; rfl
theorem union_eq {s t : DSet} (hs : Can s) (ht : Can t) : unionD s t = t ↔ ∀ x, Mem s x → Mem t x := by
  obtain ⟨u1, u2, _⟩ := unionD_can hs ht
  constructor
  · intro h x hx; rw [← h]; exact (u2 x).2 (.inl hx)
  · intro h; exact can_unique u1 ht fun x => by rw [u2]; exact ⟨fun hh => hh.elim (h x) id, .inr⟩
theorem rw_l11 (k n7 : Nat) (s t : DSet) (ht : Can t) (hl : t.2.length < 1000000) (r : Nat) (hr : r < 16) : ∀ (n i : Nat), i ≤ t.2.length → t.2.length < n + i →
    ref06_Within.l11 k n7 n (r : Int) (vat t.1 (r : Int)) (i : Int) s t = br (ilt (vat t.1 (r : Int)) (vat s.1 (r : Int))) (some false) (ref06_Within.l7 k n7 ((r + 1 : Nat) : Int) s t)
  | 0, i, h, h' => by omega
  | n + 1, i, h, h' => by
    rw [ref06_Within.l11_eq, ilt_nat, inL_nat]
    by_cases hi : i < t.2.length
    · have v0 := ht.vok.lo r (by omega) (by omega)
      have v1 := ht.vok.hi r (by omega) (by omega)
      have ih := rw_l11 k n7 s t ht hl r hr n (i + 1) (by omega) (by omega)
      have e1 : iadd .i64 (i : Int) 1 = ((i + 1 : Nat) : Int) := iadd_nat (by omega)
      rw [natOf_nat, rd_at' (e := tDot) hi, e1, iadd_s (by omega) (by omega) (by omega) (by omega), ieq_dec, ieq_dec]
      simp only [hi, decide_true, br_true]
      by_cases he : t.2[i].1 = (r : Int)
      · have hg := ht.gap _ (List.getElem_mem hi)
        rw [he] at hg
        have hne : ¬ t.2[i].2 = vat t.1 (r : Int) + 1 := by omega
        simp only [he, hne, decide_true, decide_false, br_true, br_false]
        exact ih
      · simp only [he, decide_false, br_false]
        exact ih
    · simp only [hi, decide_false, br_false]
      have e1 : inB (r : Int) 16 = true := inB16 (by omega) (by omega)
      rw [e1, iadd_nat (by omega)]
      rfl
theorem rw_l7 (k : Nat) (s t : DSet) (ht : Can t) (hl : t.2.length < k) (hk : k < 1000000) : ∀ (n r : Nat), r ≤ 16 → 16 < n + r → ∃ c, ref06_Within.l7 k n (r : Int) s t = some c ∧ (c = true ↔ ∀ q : Int, (r : Int) ≤ q → q < 16 → vat s.1 q ≤ vat t.1 q)
  | 0, r, h, h' => by omega
  | n + 1, r, h, h' => by
    rw [ref06_Within.l7_eq]
    have e1 : ilt (r : Int) 16 = decide (r < 16) := ilt_nn r 16
    rw [e1, inB_nat]
    by_cases hr : r < 16
    · simp only [hr, decide_true, br_true]
      have e := rw_l11 k n s t ht (by omega) r hr k 0 (by omega) (by omega)
      rw [show ref06_Within.l11 k n k (r : Int) (rd (.int .i64) t.1 (natOf (r : Int))) 0 s t = _ from e, ilt_dec]
      obtain ⟨c, hc, hci⟩ := rw_l7 k s t ht hl hk n (r + 1) (by omega) (by omega)
      by_cases hlt : vat t.1 (r : Int) < vat s.1 (r : Int)
      · simp only [hlt, decide_true, br_true]
        exact ⟨false, rfl, ⟨fun h => (by cases h), fun h => by have := h r (Int.le_refl _) (by omega); omega⟩⟩
      · simp only [hlt, decide_false, br_false]
        refine ⟨c, hc, hci.trans ⟨fun h q h1 h2 => ?_, fun h q h1 h2 => h q (by omega) h2⟩⟩
        by_cases e : q = (r : Int)
        · subst e; omega
        · exact h q (by omega) h2
    · simp only [hr, decide_false, br_false]
      exact ⟨true, rfl, ⟨fun _ q h1 h2 => by omega, fun _ => rfl⟩⟩
theorem rw_l2 (k : Nat) (s t : DSet) (hs : Can s) (ht : Can t) (hl : t.2.length < k) (hl2 : s.2.length < k) (hk : k < 1000000) (h17 : 17 < k) : ∀ (n i : Nat), i ≤ s.2.length → s.2.length < n + i → ∃ c, ref06_Within.l2 k n (i : Int) s t = some c ∧ (c = true ↔ (∀ d ∈ s.2.drop i, Mem t d) ∧ ∀ q : Int, 0 ≤ q → q < 16 → vat s.1 q ≤ vat t.1 q)
  | 0, i, h, h' => by omega
  | n + 1, i, h, h' => by
    rw [ref06_Within.l2_eq, ilt_nat, inL_nat, natOf_nat]
    by_cases hi : i < s.2.length
    · rw [rd_at' (e := tDot) hi, iadd_nat (by omega), rhas_is k t _ hl hk ht.rt, List.drop_eq_getElem_cons hi]
      simp only [hi, decide_true, br_true, bnd_some]
      obtain ⟨c, hc, hci⟩ := rw_l2 k s t hs ht hl hl2 hk h17 n (i + 1) (by omega) (by omega)
      cases hm : memB t s.2[i] with
      | false =>
        have e : bnot false = true := rfl
        rw [e]
        exact ⟨false, rfl, ⟨fun h => (by cases h), fun h => by have := (memB_iff _ _).2 (h.1 _ (List.mem_cons_self ..)); rw [hm] at this; cases this⟩⟩
      | true =>
        have e : bnot true = false := rfl
        rw [e]
        refine ⟨c, hc, hci.trans ⟨fun h => ⟨fun d hd => ?_, h.2⟩, fun h => ⟨fun d hd => h.1 d (List.mem_cons_of_mem _ hd), h.2⟩⟩⟩
        rcases List.mem_cons.1 hd with rfl | hd
        · exact (memB_iff _ _).1 hm
        · exact h.1 d hd
    · rw [List.drop_of_length_le (by omega)]
      simp only [hi, decide_false, br_false]
      obtain ⟨c, hc, hci⟩ := rw_l7 k s t ht hl hk k 0 (by omega) (by omega)
      exact ⟨c, hc, hci.trans ⟨fun h => ⟨fun d hd => by simp at hd, h⟩, fun h => h.2⟩⟩
theorem rwithin_is (k : Nat) (s t : DSet) (hs : Can s) (ht : Can t) (hl : t.2.length < k) (hl2 : s.2.length < k) (hk : k < 1000000) (h17 : 17 < k) : ref06_Within.f k s t = some (decide (unionD s t = t)) := by
  rw [ref06_Within.f_eq]
  obtain ⟨c, hc, hci⟩ := rw_l2 k s t hs ht hl hl2 hk h17 k 0 (by omega) (by omega)
  rw [show ref06_Within.l2 k k 0 s t = _ from hc]
  congr 1
  rw [Bool.eq_iff_iff, hci, decide_eq_true_iff, union_eq hs ht, List.drop_zero]
  constructor
  · rintro ⟨h1, h2⟩ x ⟨a, b | b⟩
    · obtain ⟨q0, q1, _, _⟩ := (rightD_iff x).1 a
      exact ⟨a, .inl (Int.le_trans b (h2 x.1 q0 q1))⟩
    · exact h1 x b
  · intro h
    exact ⟨fun d hd => h d ⟨hs.rt d hd, .inr hd⟩, fun q h0 h1 => can_le hs ht h q h0 h1⟩
/-- Good ones. -/
theorem good_is (k : Nat) (s : DSet) (hl : s.1.length = 16) (hk : 5000 < k) (hk2 : k < 1000000) : ∃ b, ref06_Good.f k s = some b ∧ (b = true → Can s ∧ s.2.length ≤ 100) := by
  rw [ref06_Good.f_eq]
  have e : ile (ilen s.2) 100 = decide (s.2.length ≤ 100) := by unfold ile ilen; congr 1; exact propext ⟨fun h => by omega, fun h => by omega⟩
  rw [e]
  by_cases h : s.2.length ≤ 100
  · obtain ⟨b, hb, hbi⟩ := rr_is k s hl hk hk2
    simp only [h, decide_true, br_true, hb, bnd_some]
    exact ⟨b, rfl, fun hh => ⟨(hbi.1 hh).1, trivial⟩⟩
  · simp only [h, decide_false, br_false]
    exact ⟨false, rfl, fun h => by cases h⟩
end Go.Proofs.Ytennedlpmacicaa
end
section
/- What the program's tally, and the document's, come to. -/
namespace Go.Proofs.Ytennedlpmacicaa
open Pal
theorem cmp_gt0 (a b : Dot) : ilt 0 (cmpD a b) = dotLt b a := by
  rw [Bool.eq_iff_iff]
  show decide (0 < cmpD a b) = true ↔ _
  rw [decide_eq_true_iff]
  have := cmpD_le a b
  constructor
  · intro h; cases hl : dotLt b a with
    | true => rfl
    | false => have := this.2 hl; omega
  · intro h
    by_cases h1 : 0 < cmpD a b
    · exact h1
    · have := this.1 (by omega); rw [h] at this; cases this
theorem rone_is (k : Nat) (u : Undo) : ref08_one.f k u = some (rightU u) := by
  rw [ref08_one.f_eq, rright_is]
  simp only [bnd_some]
  unfold rightU
  cases rightD u.1 with
  | false => rfl
  | true =>
    simp only [br_true, ile_dec, br_dec, Bool.true_and]
    by_cases h : 1 ≤ u.2
    · rw [if_pos h]; simp [h]
    · rw [if_neg h]; simp [h]
theorem deqU (a b : Undo) : deq tUndo a b = decide (a = b) := deq_dec (τ := tUndo) rfl a b
theorem canU_iff {l : List Undo} : CanU l ↔ ∀ j (h : j < l.length), rightU l[j] = true ∧ ∀ h0 : 0 < j, dotLt (l[j - 1]'(by omega)).1 l[j].1 = true := by
  constructor
  · intro h j hj
    exact ⟨h.rt _ (List.getElem_mem hj), fun h0 => List.pairwise_iff_getElem.1 h.srt (j - 1) j (by omega) hj (by omega)⟩
  · intro h
    refine ⟨fun u hu => ?_, List.pairwise_iff_getElem.2 fun i j hi hj hij => ?_⟩
    · obtain ⟨j, hj, rfl⟩ := List.mem_iff_getElem.1 hu
      exact (h j hj).1
    · have key : ∀ d j (hj : j < l.length) (hd : d + 1 ≤ j), dotLt (l[j - (d + 1)]'(by omega)).1 l[j].1 = true := by
        intro d
        induction d with
        | zero => intro j hj hd; exact (h j hj).2 (by omega)
        | succ d ih =>
          intro j hj hd
          have h1 := ih j hj (by omega)
          have h2 := (h (j - (d + 1)) (by omega)).2 (by omega)
          have e : j - (d + 1) - 1 = j - (d + 1 + 1) := by omega
          simp only [e] at h2
          exact dotLt_trans h2 h1
      have := key (j - i - 1) j hj (by omega)
      have e : j - (j - i - 1 + 1) = i := by omega
      simpa only [e] using this
def okU (l : List Undo) (j : Nat) : Prop := ∀ h : j < l.length, rightU l[j] = true ∧ ∀ h0 : 0 < j, dotLt (l[j - 1]'(by omega)).1 l[j].1 = true
theorem rrightU_is (k : Nat) (l : List Undo) (hl : l.length < k) (hk : k < 1000000) : ∃ b, ref08_Right.f k l = some b ∧ (b = true ↔ CanU l) := by
  obtain ⟨b, hb, hbi⟩ := loop_all' l.length (fun n i => ref08_Right.l2 k n l (i : Int)) (okU l) (fun n i hi => by
    simp only [ref08_Right.l2_eq, ilt_nat, inL_nat, natOf_nat, hi, decide_true, br_true, rd_at' (e := tUndo) hi, rone_is, bnd_some]
    cases hu : rightU l[i] with
    | false => exact .inr ⟨fun h => (by have := (h hi).1; rw [hu] at this; cases this), rfl⟩
    | true =>
      have e1 : bnot true = false := rfl
      have e2 : ilt 0 (i : Int) = decide (0 < i) := ilt_nn 0 i
      rw [e1, e2, iadd_nat (by omega)]
      simp only [br_false]
      by_cases h0 : 0 < i
      · have hi1 : i - 1 < l.length := by omega
        have e3 : isub .i64 (i : Int) 1 = ((i - 1 : Nat) : Int) := by rw [isub_s (by omega) (by omega) (by omega) (by omega)]; omega
        rw [e3, inL_nat, natOf_nat, rd_at' (e := tUndo) hi1, rcmp_is]
        simp only [h0, hi1, decide_true, br_true, bnd_some, cmp_m1]
        cases hd : dotLt l[i - 1].1 l[i].1 with
        | true => exact .inl ⟨fun _ => ⟨hu, fun _ => hd⟩, rfl⟩
        | false => exact .inr ⟨fun h => (by have := (h hi).2 h0; rw [hd] at this; cases this), rfl⟩
      · simp only [h0, decide_false, br_false]
        exact .inl ⟨fun _ => ⟨hu, fun h => absurd h h0⟩, trivial⟩) (fun n => by
    simp only [ref08_Right.l2_eq, ilt_nat, Nat.lt_irrefl, decide_false, br_false]) k 0 (by omega) (by omega)
  rw [ref08_Right.f_eq]
  refine ⟨b, hb, hbi.trans ?_⟩
  rw [canU_iff]
  exact ⟨fun h j hj => h j (by omega) hj hj, fun h j _ _ hj => h j hj⟩
theorem rget_is (k : Nat) (l : List Undo) (d : Dot) (hl : l.length < k) (hk : k < 1000000) : ref08_Get.f k l d = some (getU l d) := by
  rw [ref08_Get.f_eq]
  have key : ∀ n i, i ≤ l.length → l.length < n + i → ref08_Get.l2 k n l (i : Int) d = some (getU (l.drop i) d) := by
    intro n
    induction n with
    | zero => intro i h h'; omega
    | succ n ih =>
      intro i h h'
      rw [ref08_Get.l2_eq, ilt_nat, inL_nat, natOf_nat]
      by_cases hi : i < l.length
      · rw [rd_at' (e := tUndo) hi, List.drop_eq_getElem_cons hi, getU, iadd_nat (by omega), deqD]
        simp only [hi, decide_true, br_true, br_dec]
        by_cases e : l[i].1 = d
        · rw [if_pos e, if_pos e]
        · rw [if_neg e, if_neg e]; exact ih (i + 1) (by omega) (by omega)
      · rw [List.drop_of_length_le (by omega)]
        simp only [hi, decide_false, br_false]; rfl
  exact key k 0 (by omega) (by omega)
theorem tcmp_is (k : Nat) (u v : Undo) (h3 : 3 ≤ k) : tally_compare.f k u v = some (cmpD u.1 v.1) := by
  obtain ⟨q, rfl⟩ : ∃ q, k = q + 3 := ⟨k - 3, by omega⟩
  rw [tally_compare.f_eq, cmpD_is]; rfl
theorem tjoin_l (k : Nat) (h3 : 3 ≤ k) : ∀ (n : Nat) (a b x : List Undo), a.length + b.length < n → x.length + a.length + b.length < 4000000 → tally_Join.l2 k n a b x = some (x ++ joinU a b)
  | 0, a, b, x, h, _ => by omega
  | n + 1, [], [], x, h, hx => by
    rw [tally_Join.l2_eq, joinU_nil]
    simp only [ilt0, List.length_nil, Nat.lt_irrefl, decide_false, br_false, List.append_nil]
  | n + 1, [], y :: b, x, h, hx => by
    simp only [List.length_nil, List.length_cons, Nat.zero_add] at h hx
    have hr : room x (y :: []) = true := room_le (by simp only [List.length_cons, List.length_nil]; omega)
    rw [tally_Join.l2_eq]
    simp only [ilt0, ieq0, List.length_nil, Nat.lt_irrefl, decide_false, br_false, List.length_cons, Nat.zero_lt_succ, decide_true, br_true, inL0, rd0 (e := tUndo), hr, inS_tail, piece_tail]
    rw [tjoin_l k h3 n [] b _ (by simp only [List.length_nil]; omega) (by simp only [app, List.length_append, List.length_cons, List.length_nil]; omega), joinU_nil, joinU_nil]
    simp [app]
  | n + 1, y :: a, [], x, h, hx => by
    simp only [List.length_nil, List.length_cons, Nat.add_zero] at h hx
    have hr : room x (y :: []) = true := room_le (by simp only [List.length_cons, List.length_nil]; omega)
    have e0 : (a.length + 1 = 0) = False := by simp
    rw [tally_Join.l2_eq]
    simp only [ilt0, ieq0, e0, List.length_nil, Nat.lt_irrefl, decide_false, br_false, List.length_cons, Nat.zero_lt_succ, decide_true, br_true, inL0, rd0 (e := tUndo), hr, inS_tail, piece_tail]
    rw [tjoin_l k h3 n a [] _ (by simp only [List.length_nil]; omega) (by simp only [app, List.length_append, List.length_cons, List.length_nil]; omega), joinU_nil', joinU_nil']
    simp [app]
  | n + 1, u :: a, v :: b, x, h, hx => by
    simp only [List.length_cons] at h hx
    have hr : ∀ y : Undo, room x (y :: []) = true := fun y => room_le (by simp only [List.length_cons, List.length_nil]; omega)
    have e0 : (a.length + 1 = 0) = False := by simp
    have e1 : (b.length + 1 = 0) = False := by simp
    rw [tally_Join.l2_eq, joinU_cons]
    simp only [ilt0, ieq0, e0, e1, decide_false, br_false, List.length_cons, Nat.zero_lt_succ, decide_true, br_true, inL0, rd0 (e := tUndo), hr, inS_tail, piece_tail, tcmp_is k _ _ h3, bnd_some, cmp_lt0, cmp_gt0, imax_is]
    cases h1 : dotLt u.1 v.1 with
    | true =>
      simp only [br_true, if_true]
      rw [tjoin_l k h3 n a (v :: b) _ (by simp only [List.length_cons]; omega) (by simp only [app, List.length_append, List.length_cons, List.length_nil]; omega)]
      simp [app]
    | false =>
      cases h2 : dotLt v.1 u.1 with
      | true =>
        simp only [br_true, br_false, if_true]
        rw [tjoin_l k h3 n (u :: a) b _ (by simp only [List.length_cons]; omega) (by simp only [app, List.length_append, List.length_cons, List.length_nil]; omega)]
        simp [app]
      | false =>
        simp only [br_false]
        rw [tjoin_l k h3 n a b _ (by omega) (by simp only [app, List.length_append, List.length_cons, List.length_nil]; omega)]
        simp [app]
theorem tjoin_is (k : Nat) (a b : List Undo) (h3 : 3 ≤ k) (hl : a.length + b.length < k) (hk : k < 1000000) : tally_Join.f k a b = some (joinU a b) := by
  rw [tally_Join.f_eq, tjoin_l k h3 k a b [] hl (by simp only [List.length_nil]; omega)]; rfl
theorem rputU_l (k : Nat) (l : List Undo) (u : Undo) (hl : l.length < 1000000) : ∀ (n i : Nat) (x : List Undo) (b : Bool), i ≤ l.length → l.length < n + i → x.length ≤ i + b.toNat →
    ref08_Put.l6 k n l x b (i : Int) u = some (x ++ if b then (l.drop i).filter (fun y => decide (y.1 ≠ u.1)) else putF u (l.drop i))
  | 0, i, _, _, h, h', _ => by omega
  | n + 1, i, x, b, h, h', hx => by
    rw [ref08_Put.l6_eq, ilt_nat, inL_nat, natOf_nat]
    have hb : b.toNat ≤ 1 := by cases b <;> decide
    have t1 : true.toNat = 1 := rfl
    have t0 : false.toNat = 0 := rfl
    have hr : ∀ y : Undo, room x (y :: []) = true := fun y => room_le (by simp only [List.length_cons, List.length_nil]; omega)
    have hr2 : ∀ y z : Undo, room (app x (y :: [])) (z :: []) = true := fun y z => room_le (by simp only [app, List.length_append, List.length_cons, List.length_nil]; omega)
    by_cases hi : i < l.length
    · rw [rd_at' (e := tUndo) hi, rcmp_is, List.drop_eq_getElem_cons hi, iadd_nat (by omega)]
      simp only [hi, decide_true, br_true, bnd_some, hr, hr2, ieq_dec, cmpD_eq, bnot_dec, ile_dec]
      have hlen : ∀ y : Undo, (app x (y :: [])).length = x.length + 1 := fun y => by simp [app]
      cases b with
      | true =>
        have e : bnot true = false := rfl
        simp only [e, br_false, if_true, br_dec]
        by_cases he : u.1 = l[i].1
        · rw [if_neg (by simpa using he), rputU_l k l u hl n (i + 1) x true (by omega) (by omega) (by simp only [t1] at hx ⊢; omega), List.filter_cons_of_neg (by simp [he])]
          rfl
        · rw [if_pos he, rputU_l k l u hl n (i + 1) _ true (by omega) (by omega) (by rw [hlen]; simp only [t0, t1] at hx ⊢; omega), List.filter_cons_of_pos (by simpa using fun h => he h.symm)]
          simp [app]
      | false =>
        have e : bnot false = true := rfl
        simp only [e, br_true, br_dec]
        rw [putF]
        by_cases hc : cmpD u.1 l[i].1 ≤ 0
        · rw [if_pos hc, if_pos hc]
          by_cases he : u.1 = l[i].1
          · rw [if_neg (by simpa using he), rputU_l k l u hl n (i + 1) _ true (by omega) (by omega) (by rw [hlen]; simp only [t0, t1] at hx ⊢; omega), List.filter_cons_of_neg (by simp [he])]
            simp [app]
          · rw [if_pos he, rputU_l k l u hl n (i + 1) _ true (by omega) (by omega) (by simp only [app, List.length_append, List.length_cons, List.length_nil, t0, t1] at hx ⊢; omega), List.filter_cons_of_pos (by simpa using fun h => he h.symm)]
            simp [app]
        · have he : ¬ u.1 = l[i].1 := fun e => hc (by rw [(cmpD_eq _ _).2 e]; omega)
          rw [if_neg hc, if_neg hc, if_pos he, rputU_l k l u hl n (i + 1) _ false (by omega) (by omega) (by rw [hlen]; simp only [t0, t1] at hx ⊢; omega)]
          simp [app]
    · rw [List.drop_of_length_le (by omega)]
      simp only [hi, decide_false, br_false, hr]
      cases b with
      | true => have e : bnot true = false := rfl
                simp [e, br_false]
      | false => have e : bnot false = true := rfl
                 simp [e, br_true, app, putF]
theorem rputU_is (k : Nat) (l : List Undo) (u : Undo) (hl : l.length < k) (hk : k < 1000000) : ref08_Put.f k l u = some (putU l u) := by
  rw [ref08_Put.f_eq, rone_is]
  simp only [bnd_some]
  unfold putU
  cases hu : rightU u with
  | false => simp [bnot, br_true]
  | true =>
    have e : bnot true = false := rfl
    rw [e, rget_is k l _ hl hk]
    simp only [br_false, bnd_some, ile_dec, br_dec, true_and]
    by_cases h : u.2 ≤ getU l u.1
    · rw [if_pos h, if_neg (by omega)]
    · rw [if_neg h, if_pos (by omega)]
      have := rputU_l k l u (by omega) k 0 [] false (by omega) (by omega) (by simp)
      simpa using this
theorem rjoinU_is (k : Nat) (a b : List Undo) (ha : CanU a) (hl : a.length + b.length < k) (hk : k < 1000000) : ref08_Join.f k a b = some (b.foldl putU a) := by
  rw [ref08_Join.f_eq]
  have key : ∀ n i (x : List Undo), i ≤ b.length → b.length < n + i → CanU x → x.length + (b.length - i) < k → ref08_Join.l3 k n b x (i : Int) = some ((b.drop i).foldl putU x) := by
    intro n
    induction n with
    | zero => intro i x h h'; omega
    | succ n ih =>
      intro i x h h' hx hxl
      rw [ref08_Join.l3_eq, ilt_nat, inL_nat, natOf_nat]
      by_cases hi : i < b.length
      · rw [rd_at' (e := tUndo) hi, rputU_is k x _ (by omega) hk, List.drop_eq_getElem_cons hi, iadd_nat (by omega)]
        simp only [hi, decide_true, br_true, bnd_some, List.foldl_cons]
        obtain ⟨c1, _, c3⟩ := putU_can hx b[i]
        exact ih (i + 1) _ (by omega) (by omega) c1 (by omega)
      · rw [List.drop_of_length_le (by omega)]
        simp only [hi, decide_false, br_false, List.foldl_nil]
  exact key k 0 a (by omega) (by omega) ha (by omega)
theorem sameU_is (k : Nat) (a b : List Undo) (hl : a.length < k) (hk : k < 1000000) : tally_Same.f k a b = some (decide (a = b)) := by
  rw [tally_Same.f_eq, slices_Equal_api_Undo_api_Undo.f_eq, ieq_len, bnot_dec]
  by_cases h : a.length = b.length
  · simp only [h, not_true, decide_false, br_false]
    have := loop_same a b h (fun n i => slices_Equal_api_Undo_api_Undo.l4 k n a b (ilen a) (i : Int)) (fun n i hi hi' => by
      simp only [slices_Equal_api_Undo_api_Undo.l4_eq, ilt_nat, inL_nat, natOf_nat, hi, hi', decide_true, br_true, rd_at' (e := tUndo) hi, rd_at' (e := tUndo) hi', deqU, bnot_dec, br_dec, iadd_nat (show i < 4611686018427387904 by omega)]
      by_cases e : a[i] = b[i] <;> simp [e]) (fun n => by simp only [slices_Equal_api_Undo_api_Undo.l4_eq, ilt_nat, Nat.lt_irrefl, decide_false, br_false]) k (by omega)
    rw [show slices_Equal_api_Undo_api_Undo.l4 k k a b (ilen a) 0 = _ from this]; rfl
  · have : a ≠ b := fun e => h (by rw [e])
    simp only [h, this, not_false_eq_true, decide_true, decide_false, br_true, bnd_some]
theorem rsameU_is (k : Nat) (a b : List Undo) (hl : a.length < k) (hk : k < 1000000) : ref08_Same.f k a b = some (decide (a = b)) := by
  rw [ref08_Same.f_eq, ieq_len, bnot_dec]
  by_cases h : a.length = b.length
  · simp only [h, not_true, decide_false, br_false]
    exact loop_same a b h (fun n i => ref08_Same.l4 k n a b (i : Int)) (fun n i hi hi' => by
      simp only [ref08_Same.l4_eq, ilt_nat, inL_nat, natOf_nat, hi, hi', decide_true, br_true, rd_at' (e := tUndo) hi, rd_at' (e := tUndo) hi', deqU, bnot_dec, br_dec, iadd_nat (show i < 4611686018427387904 by omega)]
      by_cases e : a[i] = b[i] <;> simp [e]) (fun n => by simp only [ref08_Same.l4_eq, ilt_nat, Nat.lt_irrefl, decide_false, br_false]) k (by omega)
  · have : a ≠ b := fun e => h (by rw [e])
    simp only [h, this, not_false_eq_true, decide_true, decide_false, br_true]
end Go.Proofs.Ytennedlpmacicaa
end
section
/- What is known: joined, the same, within. -/
namespace Go.Proofs.Ytennedlpmacicaa
open Pal
abbrev Know := DSet × (List Undo × DSet)
structure CanK (a : Know) : Prop where
  kn : Can a.1
  un : CanU a.2.1
  se : Can a.2.2
/-- No more than so many parts. -/
structure LenK (n : Nat) (a : Know) : Prop where
  kn : a.1.2.length ≤ n
  un : a.2.1.length ≤ n
  se : a.2.2.2.length ≤ n
def joinK (a b : Know) : Know := (unionD a.1 b.1, (joinU a.2.1 b.2.1, unionD a.2.2 b.2.2))
theorem joinK_can {a b : Know} (ha : CanK a) (hb : CanK b) : CanK (joinK a b) := ⟨(unionD_can ha.kn hb.kn).1, joinU_can ha.un hb.un, (unionD_can ha.se hb.se).1⟩
theorem joinK_len {a b : Know} {n m : Nat} (ha : CanK a) (hb : CanK b) (h1 : LenK n a) (h2 : LenK m b) : LenK (n + m) (joinK a b) :=
  ⟨Nat.le_trans (unionD_can ha.kn hb.kn).2.2 (Nat.add_le_add h1.kn h2.kn), Nat.le_trans (joinU_len ha.un hb.un) (Nat.add_le_add h1.un h2.un), Nat.le_trans (unionD_can ha.se hb.se).2.2 (Nat.add_le_add h1.se h2.se)⟩
theorem unionD_comm {s t : DSet} (hs : Can s) (ht : Can t) : unionD s t = unionD t s := by
  obtain ⟨p1, p2, _⟩ := unionD_can hs ht
  obtain ⟨q1, q2, _⟩ := unionD_can ht hs
  exact can_unique p1 q1 fun x => by rw [p2, q2]; exact Or.comm
theorem unionD_assoc {s t u : DSet} (hs : Can s) (ht : Can t) (hu : Can u) : unionD (unionD s t) u = unionD s (unionD t u) := by
  obtain ⟨p1, p2, _⟩ := unionD_can hs ht
  obtain ⟨m1, m2, _⟩ := unionD_can ht hu
  obtain ⟨r1, r2, _⟩ := unionD_can p1 hu
  obtain ⟨n1, n2, _⟩ := unionD_can hs m1
  exact can_unique r1 n1 fun x => by rw [r2, n2, p2, m2]; exact or_assoc
theorem unionD_self {s : DSet} (hs : Can s) : unionD s s = s := (union_eq hs hs).2 fun _ h => h
theorem joinU_self {a : List Undo} (ha : CanU a) : joinU a a = a := (joinU_eq ha ha).2 fun _ => Int.le_refl _
theorem joinK_comm {a b : Know} (ha : CanK a) (hb : CanK b) : joinK a b = joinK b a := by
  unfold joinK; rw [unionD_comm ha.kn hb.kn, joinU_comm ha.un hb.un, unionD_comm ha.se hb.se]
theorem joinK_assoc {a b c : Know} (ha : CanK a) (hb : CanK b) (hc : CanK c) : joinK (joinK a b) c = joinK a (joinK b c) := by
  unfold joinK; simp only; rw [unionD_assoc ha.kn hb.kn hc.kn, joinU_assoc ha.un hb.un hc.un, unionD_assoc ha.se hb.se hc.se]
theorem joinK_self {a : Know} (ha : CanK a) : joinK a a = a := by
  unfold joinK; rw [unionD_self ha.kn, joinU_self ha.un, unionD_self ha.se]
theorem joinK_left {a b : Know} (ha : CanK a) (hb : CanK b) : joinK a (joinK a b) = joinK a b := by rw [← joinK_assoc ha ha hb, joinK_self ha]
theorem joinK_right {a b : Know} (ha : CanK a) (hb : CanK b) : joinK b (joinK a b) = joinK a b := by rw [joinK_comm ha hb]; exact joinK_left hb ha
theorem know_eq (a b : Know) : a = b ↔ a.1 = b.1 ∧ a.2.1 = b.2.1 ∧ a.2.2 = b.2.2 := by
  obtain ⟨a1, a2, a3⟩ := a; obtain ⟨b1, b2, b3⟩ := b
  simp
/-! ### What the functions come to -/
theorem goodK_is (k : Nat) (a : Ty.D tKnow) (fa : Fits tKnow a) (hk : 5000 < k) (hk2 : k < 1000000) : ∃ b, ref24_Good.f k a = some b ∧ (b = true → CanK a ∧ LenK 100 a) := by
  have e : ∀ {α : Type} (xs : List α), ile (ilen xs) 100 = decide (xs.length ≤ 100) := fun xs => by unfold ile ilen; congr 1; exact propext ⟨fun h => by omega, fun h => by omega⟩
  rw [ref24_Good.f_eq, ref24_Short.f_eq, e, e, e]
  simp only [br_dec]
  by_cases h1 : List.length a.1.2 ≤ 100
  · rw [if_pos h1]
    by_cases h2 : List.length a.2.1 ≤ 100
    · rw [if_pos h2]
      by_cases h3 : List.length a.2.2.2 ≤ 100
      · rw [decide_eq_true h3, bnd_some]
        simp only [br_true]
        obtain ⟨b1, g1, i1⟩ := rr_is k a.1 fa.1.1.1 hk hk2
        obtain ⟨b2, g2, i2⟩ := rrightU_is k a.2.1 (Nat.lt_of_le_of_lt h2 (by omega)) hk2
        obtain ⟨b3, g3, i3⟩ := rr_is k a.2.2 fa.2.2.1.1 hk hk2
        rw [ref24_Right.f_eq, g1, g2, g3]
        simp only [bnd_some]
        cases b1 with
        | false => exact ⟨false, rfl, fun h => by cases h⟩
        | true =>
          cases b2 with
          | false => exact ⟨false, rfl, fun h => by cases h⟩
          | true => exact ⟨b3, rfl, fun h => ⟨⟨(i1.1 rfl).1, i2.1 rfl, (i3.1 h).1⟩, ⟨h1, h2, h3⟩⟩⟩
      · rw [decide_eq_false h3]; exact ⟨false, rfl, fun h => by cases h⟩
    · rw [if_neg h2]; exact ⟨false, rfl, fun h => by cases h⟩
  · rw [if_neg h1]; exact ⟨false, rfl, fun h => by cases h⟩
theorem djoin_is (k : Nat) (a b : Know) {n m : Nat} (ha : CanK a) (hb : CanK b) (h1 : LenK n a) (h2 : LenK m b) (hl : n + m < k) (h17 : 17 < k) (hk : k < 1000000) : delta_Join.f k a b = some (joinK a b) := by
  have := h1.kn; have := h1.un; have := h1.se; have := h2.kn; have := h2.un; have := h2.se
  rw [delta_Join.f_eq, union_is k _ _ ha.kn hb.kn (by omega) h17 hk, tjoin_is k _ _ (by omega) (by omega) hk, union_is k _ _ ha.se hb.se (by omega) h17 hk]
  rfl
theorem rdjoin_is (k : Nat) (a b : Know) {n m : Nat} (ha : CanK a) (hb : CanK b) (h1 : LenK n a) (h2 : LenK m b) (hl : n + m < k) (h17 : 17 < k) (hk : k < 1000000) : ref24_Join.f k a b = some (joinK a b) := by
  have := h1.kn; have := h1.un; have := h1.se; have := h2.kn; have := h2.un; have := h2.se
  rw [ref24_Join.f_eq, runion_is k _ _ ha.kn hb.kn (by omega) h17 hk, rjoinU_is k _ _ ha.un (by omega) hk, runion_is k _ _ ha.se hb.se (by omega) h17 hk, rjoin_eq ha.un hb.un]
  rfl
theorem dsame_is (k : Nat) (a b : Know) {n : Nat} (h1 : LenK n a) (hl : n < k) (hk : k < 1000000) : delta_Same.f k a b = some (decide (a = b)) := by
  have := h1.kn; have := h1.un; have := h1.se
  rw [delta_Same.f_eq, same_is k _ _ (by omega) hk, sameU_is k _ _ (by omega) hk, same_is k _ _ (by omega) hk]
  simp only [bnd_some, br_dec, know_eq a b]
  by_cases e1 : a.1 = b.1 <;> by_cases e2 : a.2.1 = b.2.1 <;> simp [e1, e2]
theorem rdsame_is (k : Nat) (a b : Know) {n : Nat} (h1 : LenK n a) (hl : n < k) (hk : k < 1000000) : ref24_Same.f k a b = some (decide (a = b)) := by
  have := h1.kn; have := h1.un; have := h1.se
  rw [ref24_Same.f_eq, rsame_is k _ _ (by omega) hk, rsameU_is k _ _ (by omega) hk, rsame_is k _ _ (by omega) hk]
  simp only [bnd_some, br_dec, know_eq a b]
  by_cases e1 : a.1 = b.1 <;> by_cases e2 : a.2.1 = b.2.1 <;> simp [e1, e2]
theorem dwithin_is (k : Nat) (a b : Know) {n m : Nat} (ha : CanK a) (hb : CanK b) (h1 : LenK n a) (h2 : LenK m b) (hl : n + m < k) (h17 : 17 < k) (hk : k < 1000000) : delta_Within.f k a b = some (decide (joinK a b = b)) := by
  rw [delta_Within.f_eq, djoin_is k a b ha hb h1 h2 hl h17 hk]
  simp only [bnd_some]
  rw [dsame_is k _ _ (joinK_len ha hb h1 h2) hl hk]; rfl
def leAt (a b : Know) (j : Nat) : Prop := ∀ h : j < a.2.1.length, (a.2.1[j]).2 ≤ getU b.2.1 (a.2.1[j]).1
theorem rdwithin_is (k : Nat) (a b : Know) {n m : Nat} (ha : CanK a) (hb : CanK b) (h1 : LenK n a) (h2 : LenK m b) (hl : n + m < k) (h17 : 17 < k) (hk : k < 1000000) : ref24_Within.f k a b = some (decide (joinK a b = b)) := by
  have := h1.kn; have := h1.un; have := h1.se; have := h2.kn; have := h2.un; have := h2.se
  rw [ref24_Within.f_eq]
  obtain ⟨c, hc, hci⟩ := loop_all a.2.1.length (fun n i => ref24_Within.l2 k n (i : Int) a b) (leAt a b) (fun n i hi => by
    simp only [ref24_Within.l2_eq, ilt_nat, inL_nat, natOf_nat, hi, decide_true, br_true, rd_at' (e := tUndo) hi, rget_is k b.2.1 _ (by omega) hk, bnd_some, iadd_nat (show i < 4611686018427387904 by omega)]
    rw [ilt_dec, br_dec]
    by_cases h : getU b.2.1 (a.2.1[i]).1 < (a.2.1[i]).2
    · exact .inr ⟨fun hh => by have := hh hi; omega, if_pos h⟩
    · exact .inl ⟨fun _ => by omega, if_neg h⟩) (some (decide (unionD a.1 b.1 = b.1) && decide (unionD a.2.2 b.2.2 = b.2.2))) (unionD a.1 b.1 = b.1 ∧ unionD a.2.2 b.2.2 = b.2.2) ⟨_, rfl, by simp⟩ (fun n => by
    simp only [ref24_Within.l2_eq, ilt_nat, Nat.lt_irrefl, decide_false, br_false, rwithin_is k _ _ ha.kn hb.kn (show b.1.2.length < k by omega) (show a.1.2.length < k by omega) hk h17, rwithin_is k _ _ ha.se hb.se (show b.2.2.2.length < k by omega) (show a.2.2.2.length < k by omega) hk h17, bnd_some, br_dec]
    by_cases e : unionD a.1 b.1 = b.1 <;> simp [e]) k 0 (by omega) (by omega)
  rw [show ref24_Within.l2 k k 0 a b = _ from hc]
  congr 1
  rw [Bool.eq_iff_iff, hci, decide_eq_true_iff, know_eq]
  have hu : joinU a.2.1 b.2.1 = b.2.1 ↔ ∀ j, 0 ≤ j → j < a.2.1.length → leAt a b j := by
    rw [joinU_eq ha.un hb.un, leU_iff ha.un hb.un]
    constructor
    · intro h j _ _ hj; exact h _ (List.getElem_mem hj)
    · intro h u hu
      obtain ⟨j, hj, rfl⟩ := List.mem_iff_getElem.1 hu
      exact h j (by omega) hj hj
  show _ ↔ unionD a.1 b.1 = b.1 ∧ joinU a.2.1 b.2.1 = b.2.1 ∧ unionD a.2.2 b.2.2 = b.2.2
  rw [hu]
  exact ⟨fun ⟨x, y, z⟩ => ⟨y, x, z⟩, fun ⟨y, x, z⟩ => ⟨x, y, z⟩⟩
theorem rrightK_is (k : Nat) {a : Know} {n : Nat} (ha : CanK a) (h1 : LenK n a) (hn : n ≤ 4096) (hk : 5000 < k) (hk2 : k < 1000000) : ref24_Right.f k a = some true := by
  have := h1.kn; have := h1.un; have := h1.se
  obtain ⟨b2, g2, i2⟩ := rrightU_is k a.2.1 (by omega) hk2
  have : b2 = true := i2.2 ha.un
  subst this
  rw [ref24_Right.f_eq, rr_true k ha.kn (by omega) hk hk2, g2, rr_true k ha.se (by omega) hk hk2]; rfl
end Go.Proofs.Ytennedlpmacicaa
end
section
/- Chapter 24's example: it is as it is told. -/
namespace Go.Proofs.Ytennedlpmacicaa
open Pal
set_option maxRecDepth 100000 in
theorem law24_awake.is (k : Nat) : law24_awake.f (k + 40) = some true := by kernel_rfl
theorem awake24 {k : Nat} (h : 40 ≤ k) : law24_awake.f k = some true := by
  obtain ⟨q, rfl⟩ : ∃ q, k = q + 40 := ⟨k - 40, by omega⟩
  exact law24_awake.is q
end Go.Proofs.Ytennedlpmacicaa
end
section
/- The plain laws: the runs of DeltaJoins and DeltaLattice answer true for every input. -/
namespace Go.Proofs.Ytennedlpmacicaa
open Pal
theorem deqBB (b : Bool) : deq .bool b b = true := by cases b <;> rfl
theorem deltaJoins_true (a : Ty.D tKnow) (fa : Fits tKnow a) (b : Ty.D tKnow) (fb : Fits tKnow b) : ∃ k, law24_DeltaJoins.f k a b = some true := by
  refine ⟨6000, ?_⟩
  rw [law24_DeltaJoins.f_eq]
  have aw : law24_awake.f 6000 = some true := awake24 (by decide)
  have bt : bnot true = false := rfl
  have bf : bnot false = true := rfl
  obtain ⟨x, hx, hxi⟩ := goodK_is 6000 a fa (by decide) (by decide)
  obtain ⟨y, hy, hyi⟩ := goodK_is 6000 b fb (by decide) (by decide)
  rw [hx, hy, aw]
  simp only [bnd_some]
  cases x with
  | false => rw [bf]; rfl
  | true =>
    rw [bt]; simp only [br_false]
    cases y with
    | false => rw [bf]; rfl
    | true =>
      rw [bt]; simp only [br_false]
      obtain ⟨ca, la⟩ := hxi rfl
      obtain ⟨cb, lb⟩ := hyi rfl
      rw [djoin_is 6000 a b ca cb la lb (by decide) (by decide) (by decide), rdjoin_is 6000 a b ca cb la lb (by decide) (by decide) (by decide)]
      simp only [bnd_some]
      rw [rdsame_is 6000 _ _ (joinK_len ca cb la lb) (by decide) (by decide), rrightK_is 6000 (joinK_can ca cb) (joinK_len ca cb la lb) (by decide) (by decide) (by decide), dwithin_is 6000 a b ca cb la lb (by decide) (by decide) (by decide), rdwithin_is 6000 a b ca cb la lb (by decide) (by decide) (by decide), dsame_is 6000 a b la (by decide) (by decide), rdsame_is 6000 a b la (by decide) (by decide)]
      simp only [bnd_some, decide_true, br_true, deqBB]
theorem deltaLattice_true (a : Ty.D tKnow) (fa : Fits tKnow a) (b : Ty.D tKnow) (fb : Fits tKnow b) (c : Ty.D tKnow) (fc : Fits tKnow c) : ∃ k, law24_DeltaLattice.f k a b c = some true := by
  refine ⟨6000, ?_⟩
  rw [law24_DeltaLattice.f_eq]
  have aw : law24_awake.f 6000 = some true := awake24 (by decide)
  have bt : bnot true = false := rfl
  have bf : bnot false = true := rfl
  obtain ⟨x, hx, hxi⟩ := goodK_is 6000 a fa (by decide) (by decide)
  obtain ⟨y, hy, hyi⟩ := goodK_is 6000 b fb (by decide) (by decide)
  obtain ⟨z, hz, hzi⟩ := goodK_is 6000 c fc (by decide) (by decide)
  rw [hx, hy, hz, aw]
  simp only [bnd_some]
  cases x with
  | false => rw [bf]; rfl
  | true =>
  rw [bt]; simp only [br_false]
  cases y with
  | false => rw [bf]; rfl
  | true =>
  rw [bt]; simp only [br_false]
  cases z with
  | false => rw [bf]; rfl
  | true =>
  rw [bt]; simp only [br_false]
  obtain ⟨ca, la⟩ := hxi rfl
  obtain ⟨cb, lb⟩ := hyi rfl
  obtain ⟨cc, lc⟩ := hzi rfl
  have cab := joinK_can ca cb
  have lab := joinK_len ca cb la lb
  have cbc := joinK_can cb cc
  have lbc := joinK_len cb cc lb lc
  rw [djoin_is 6000 a b ca cb la lb (by decide) (by decide) (by decide), djoin_is 6000 b a cb ca lb la (by decide) (by decide) (by decide), djoin_is 6000 b c cb cc lb lc (by decide) (by decide) (by decide), djoin_is 6000 a a ca ca la la (by decide) (by decide) (by decide)]
  simp only [bnd_some]
  rw [djoin_is 6000 _ c cab cc lab lc (by decide) (by decide) (by decide), djoin_is 6000 a _ ca cbc la lbc (by decide) (by decide) (by decide)]
  simp only [bnd_some]
  rw [dsame_is 6000 (joinK a b) _ lab (by decide) (by decide), dsame_is 6000 (joinK (joinK a b) c) _ (joinK_len cab cc lab lc) (by decide) (by decide), dsame_is 6000 (joinK a a) _ (joinK_len ca ca la la) (by decide) (by decide), dwithin_is 6000 a _ ca cab la lab (by decide) (by decide) (by decide), dwithin_is 6000 b _ cb cab lb lab (by decide) (by decide) (by decide), dwithin_is 6000 a c ca cc la lc (by decide) (by decide) (by decide), dwithin_is 6000 b c cb cc lb lc (by decide) (by decide) (by decide), dwithin_is 6000 _ c cab cc lab lc (by decide) (by decide) (by decide)]
  rw [decide_eq_true (joinK_comm ca cb), decide_eq_true (joinK_assoc ca cb cc), decide_eq_true (joinK_self ca), decide_eq_true (joinK_left ca cb), decide_eq_true (joinK_right ca cb)]
  simp only [bnd_some, br_true]
  by_cases h1 : joinK a c = c
  · rw [decide_eq_true h1, bt]; simp only [br_false]
    by_cases h2 : joinK b c = c
    · rw [decide_eq_true h2, bt, decide_eq_true (show joinK (joinK a b) c = c by rw [joinK_assoc ca cb cc, h2, h1])]
      rfl
    · rw [decide_eq_false h2, bf]; rfl
  · rw [decide_eq_false h1, bf]; rfl
#print axioms deltaJoins_true
#print axioms deltaLattice_true
end Go.Proofs.Ytennedlpmacicaa
end
section
/- The statement of the law DeltaLattice: for every input the law returns true, and its arguments read as they did. No conditions. -/
namespace Go.Proofs.Ytennedlpmacicaa.deltaLatticeDone
open Go.ChangeShapes Go.WideShapes Go.ChangeAt Go.RowKit
open Pal
set_option linter.unusedVariables false

theorem own : ownKnob Try.prog.godebug = none := by kernel_rfl
theorem laidOut : laidOutB Try.prog = true := by kernel_rfl
theorem tyOK {t : Nat} {τ : Ty} {nf : Nat} (h : tiB Try.prog t ⟨τ, nf⟩ = true) : tyB Try.prog 40 t τ = true := by
  simp only [tiB, Bool.and_eq_true] at h; exact h.1.1.1
theorem ty0 : tyB Try.prog 40 50 tKnow = true := by kernel_rfl
theorem ty1 : tyB Try.prog 40 50 tKnow = true := by kernel_rfl
theorem ty2 : tyB Try.prog 40 50 tKnow = true := by kernel_rfl

theorem walk (W : World) (v0 : Value) (x0 : Ty.D tKnow) (h0 : TRep (gh0 W) W (.dat tKnow x0) v0 []) (f0 : Fits tKnow x0) (v1 : Value) (x1 : Ty.D tKnow) (h1 : TRep (gh0 W) W (.dat tKnow x1) v1 []) (f1 : Fits tKnow x1) (v2 : Value) (x2 : Ty.D tKnow) (h2 : TRep (gh0 W) W (.dat tKnow x2) v2 []) (f2 : Fits tKnow x2) :
    Calls Try.prog 9 #[v0, v1, v2] W fun e w' => e = .returned (.bool true) ∧ Below W.heap.size W w' := by
  obtain ⟨k, hk⟩ := deltaLattice_true x0 f0 x1 f1 x2 f2
  exact law_calls' (args := [.dat tKnow x0, .dat tKnow x1, .dat tKnow x2]) (argv := [v0, v1, v2]) (code := law24_DeltaLattice.body) (σ := law24_DeltaLattice.sg) (F := fun x => law24_DeltaLattice.f k x.1 x.2.1 x.2.2) (x := (x0, x1, x2)) (r := true) (law24_DeltaLattice.ok k) Try.func9 (by kernel_rfl) (by kernel_rfl) (by kernel_rfl) (by kernel_rfl) hk rfl rfl
    ⟨v0, _, [], [], rfl, rfl, h0, ⟨v1, _, [], [], rfl, rfl, h1, ⟨v2, _, [], [], rfl, rfl, h2, ⟨rfl, rfl⟩⟩⟩⟩

set_option maxRecDepth 100000 in
theorem lifted (os : Os) (started : os.Started) (H : Type) (enc : TypeId × Value → H) :
    ReturnsInHanded {} Try.checked os 9 .any (Rows.deltaLatticeSpec.pre6 enc Try.prog Try.f9 Rows.deltaLatticeRow.domain false) (Rows.deltaLatticeSpec.post enc Try.prog Try.f9 false true false false) := by
  refine returnsInHanded_of_change (C := Try.checked) own started (by kernel_rfl) Try.func9
    (ChangeSpec.witness6 (enc := enc) (C := Try.checked) false ⟨#[], #[.agg #[.int .i64 0, .int .i64 0, .int .i64 0, .int .i64 0, .int .i64 0, .int .i64 0, .int .i64 0, .int .i64 0, .int .i64 0, .int .i64 0, .int .i64 0, .int .i64 0, .int .i64 0, .int .i64 0, .int .i64 0, .int .i64 0, .slice none 0 0, .slice none 0 0, .int .i64 0, .int .i64 0, .int .i64 0, .int .i64 0, .int .i64 0, .int .i64 0, .int .i64 0, .int .i64 0, .int .i64 0, .int .i64 0, .int .i64 0, .int .i64 0, .int .i64 0, .int .i64 0, .int .i64 0, .int .i64 0, .slice none 0 0], .agg #[.int .i64 0, .int .i64 0, .int .i64 0, .int .i64 0, .int .i64 0, .int .i64 0, .int .i64 0, .int .i64 0, .int .i64 0, .int .i64 0, .int .i64 0, .int .i64 0, .int .i64 0, .int .i64 0, .int .i64 0, .int .i64 0, .slice none 0 0, .slice none 0 0, .int .i64 0, .int .i64 0, .int .i64 0, .int .i64 0, .int .i64 0, .int .i64 0, .int .i64 0, .int .i64 0, .int .i64 0, .int .i64 0, .int .i64 0, .int .i64 0, .int .i64 0, .int .i64 0, .int .i64 0, .int .i64 0, .slice none 0 0], .agg #[.int .i64 0, .int .i64 0, .int .i64 0, .int .i64 0, .int .i64 0, .int .i64 0, .int .i64 0, .int .i64 0, .int .i64 0, .int .i64 0, .int .i64 0, .int .i64 0, .int .i64 0, .int .i64 0, .int .i64 0, .int .i64 0, .slice none 0 0, .slice none 0 0, .int .i64 0, .int .i64 0, .int .i64 0, .int .i64 0, .int .i64 0, .int .i64 0, .int .i64 0, .int .i64 0, .int .i64 0, .int .i64 0, .int .i64 0, .int .i64 0, .int .i64 0, .int .i64 0, .int .i64 0, .int .i64 0, .slice none 0 0]], []⟩ 12 (by kernel_rfl) (by kernel_rfl) (by kernel_rfl) (by kernel_rfl)) ?_
  intro W base args ds gs before hval0 hW hcnd _
  have hval : ∀ (j : Nat) t v, Try.f9.params[j]? = some t → args[j]? = some v → Value.okWide Try.prog W .any base t v := hval0
  have hW' := hW
  obtain ⟨p, q, hA0, hV, rfl, hfz, hnd⟩ := hW
  have hA : DataW.TrodAll enc Try.prog W 0 (fun _ => true) true Try.f9.params.toList args.toList ds p := hA0
  rw [Try.params9] at hA hval
  obtain ⟨v0, vs0, d0, ds0, p0, q0, hargs, rfl, rfl, h0, r0⟩ := trodAll_cons hA
  obtain ⟨v1, vs1, d1, ds1, p1, q1, rfl, rfl, rfl, h1, r1⟩ := trodAll_cons r0
  obtain ⟨v2, vs2, d2, ds2, p2, q2, rfl, rfl, rfl, h2, r2⟩ := trodAll_cons r1
  obtain ⟨rfl, rfl, rfl⟩ := trodAll_nil r2
  obtain rfl : args = #[v0, v1, v2] := by cases args; simp_all
  obtain ⟨rfl, rfl⟩ := trodVars_none hV
  have k0 := h0
  have lt0 : ∀ x ∈ p0, x.block < W.heap.size := by obtain ⟨m, hm⟩ := k0; exact DataW.trod_lt m _ _ _ hm
  obtain ⟨x0, g0, f0⟩ := arg_open ty0 (hval 0 50 v0 rfl rfl) h0
  have k1 := h1
  have lt1 : ∀ x ∈ p1, x.block < W.heap.size := by obtain ⟨m, hm⟩ := k1; exact DataW.trod_lt m _ _ _ hm
  obtain ⟨x1, g1, f1⟩ := arg_open ty1 (hval 1 50 v1 rfl rfl) h1
  have k2 := h2
  have lt2 : ∀ x ∈ p2, x.block < W.heap.size := by obtain ⟨m, hm⟩ := k2; exact DataW.trod_lt m _ _ _ hm
  obtain ⟨x2, g2, f2⟩ := arg_open ty2 (hval 2 50 v2 rfl rfl) h2
  clear hA0 hval0
  refine (walk W v0 x0 g0 f0 v1 x1 g1 f1 v2 x2 g2 f2).mono fun e W' ⟨he, bel⟩ => ?_
  subst he
  exact ⟨_, rfl, _, _, _, [], _, [], hW', trodAll_mk1 (shut_bool Try.underlying4 _), (trodAll_cons_mk (Below.trod laidOut (by kernel_rfl) (of_decide_eq_true (by kernel_rfl)) k0 bel lt0) (trodAll_cons_mk (Below.trod laidOut (by kernel_rfl) (of_decide_eq_true (by kernel_rfl)) k1 bel lt1) (trodAll_cons_mk (Below.trod laidOut (by kernel_rfl) (of_decide_eq_true (by kernel_rfl)) k2 bel lt2) trodAll_mk0))), rfl, bel.frame _, fun h => by cases h⟩

theorem over : Rows.deltaLatticeRow.holds Try.pinned (OpenSpec.ofChange Rows.deltaLatticeSpec) :=
  OpenClaim.holds_of_wide 9 Try.f9 rfl rfl rfl rfl rfl rfl rfl ⟨rfl, rfl, rfl, rfl, rfl⟩ rfl rfl rfl rfl rfl (by kernel_rfl) Try.func9 (by kernel_rfl)
    (of_decide_eq_true (by kernel_rfl)) (by unfold Func.isWrapper; first | (rw [if_pos (by decide +kernel)]; kernel_rfl) | (rw [if_neg (by decide +kernel)]; exact ⟨rfl, rfl⟩))
    (fun os started H enc _ => lifted os started H enc)

/-- ████ THE STATEMENT ████ -/
theorem proved : Rows.DeltaLatticeSaid := over
#print axioms proved
end Go.Proofs.Ytennedlpmacicaa.deltaLatticeDone
end
