/- Whether a set is right, how many dots there are, and the next one's number. -/
import Derived.Test.YtennedlpmacicaaDoRun4
namespace Go.Proofs.Ytennedlpmacicaa
open Pal
theorem dr_l (k : Nat) (s : DSet) (hl : s.2.length < 1000000) (hv : VOk s.1) : ∀ (n i : Nat), i ≤ s.2.length → s.2.length < n + i → ∃ b, dots_Right.l4 (k + 3) n s.2 (ilen s.2) (i : Int) s = some b ∧ (b = true ↔ ∀ j (h : j < s.2.length), i ≤ j → okAt s j h)
  | 0, i, h, h' => by omega
  | n + 1, i, h, h' => by
    rw [dots_Right.l4_eq, ilt_nat, inL_nat, natOf_nat]
    by_cases hi : i < s.2.length
    · rw [rd_at' (e := tDot) hi, right_is, iadd_nat (by omega)]
      simp only [hi, decide_true, br_true, bnd_some]
      cases hr : rightD s.2[i] with
      | false =>
        have e : bnot false = true := rfl
        rw [e]
        exact ⟨false, rfl, ⟨fun h => (by cases h), fun h => by rw [(h i hi (Nat.le_refl _)).1] at hr; cases hr⟩⟩
      | true =>
        have e : bnot true = false := rfl
        obtain ⟨r0, r1, r2, r3⟩ := (rightD_iff s.2[i]).1 hr
        have hvv : rd (.int .i64) s.1 (natOf s.2[i].1) = vat s.1 s.2[i].1 := rfl
        have v0 := hv.lo s.2[i].1 r0 r1
        have v1 := hv.hi s.2[i].1 r0 r1
        rw [e, inB16 r0 r1, hvv, iadd_s (by omega) (by omega) (by omega) (by omega), ile_dec]
        simp only [br_true, br_false]
        by_cases hg : s.2[i].2 ≤ vat s.1 s.2[i].1 + 1
        · simp only [hg, decide_true, br_true]
          exact ⟨false, rfl, ⟨fun h => (by cases h), fun h => by have := (h i hi (Nat.le_refl _)).2.1; omega⟩⟩
        · simp only [hg, decide_false, br_false]
          obtain ⟨b, hb, hbi⟩ := dr_l k s hl hv n (i + 1) (by omega) (by omega)
          have step : (∀ h0 : 0 < i, dotLt (s.2[i - 1]'(by omega)) s.2[i] = true) → (b = true ↔ ∀ j (h : j < s.2.length), i ≤ j → okAt s j h) := fun hlt => hbi.trans ⟨fun h j hj hij => by
            by_cases he : j = i
            · subst he; exact ⟨hr, by omega, hlt⟩
            · exact h j hj (by omega), fun h j hj hij => h j hj (by omega)⟩
          by_cases h0 : 0 < i
          · have e2 : ilt 0 (i : Int) = true := by simp [ilt]; omega
            have e3 : isub .i64 (i : Int) 1 = ((i - 1 : Nat) : Int) := by rw [isub_s (by omega) (by omega) (by omega) (by omega)]; omega
            have hi1 : i - 1 < s.2.length := by omega
            have e4 : ∀ a b : Dot, ile 0 (cmpD a b) = !dotLt a b := fun a b => by
              show decide (0 ≤ cmpD a b) = !decide (cmpD a b < 0)
              by_cases h : cmpD a b < 0
              · rw [decide_eq_true h, decide_eq_false (by omega)]; rfl
              · rw [decide_eq_false h, decide_eq_true (by omega)]; rfl
            rw [e2, e3, inL_nat, natOf_nat, rd_at' (e := tDot) hi1, cmpD_is]
            simp only [hi1, decide_true, br_true, bnd_some, e4]
            cases hc : dotLt s.2[i - 1] s.2[i] with
            | true => exact ⟨b, hb, step fun _ => hc⟩
            | false => exact ⟨false, rfl, ⟨fun h => (by cases h), fun h => by have := (h i hi (Nat.le_refl _)).2.2 h0; rw [hc] at this; cases this⟩⟩
          · have e2 : ilt 0 (i : Int) = false := by simp [ilt]; omega
            rw [e2]
            exact ⟨b, hb, step fun h => absurd h h0⟩
    · simp only [hi, decide_false, br_false]
      exact ⟨true, rfl, ⟨fun _ j hj hij => by omega, fun _ => rfl⟩⟩
theorem dr_is (k : Nat) (s : DSet) (hl : s.1.length = 16) (hk : 5000 < k) (hk2 : k < 1000000) : ∃ b, dots_Right.f k s = some b ∧ (b = true ↔ Can s ∧ s.2.length ≤ 4096) := by
  obtain ⟨b, hb, hbi⟩ := vr_is k s.1 hl (by omega)
  rw [dots_Right.f_eq, hb]
  simp only [bnd_some]
  cases b with
  | false => exact ⟨false, rfl, ⟨fun h => (by cases h), fun h => hbi.2 h.1.vok⟩⟩
  | true =>
    have hv := hbi.1 rfl
    have e : bnot true = false := rfl
    have e2 : ilt 4096 (ilen s.2) = decide (4096 < s.2.length) := ilt_nat 4096 s.2
    rw [e, e2]
    simp only [br_false]
    by_cases h : 4096 < s.2.length
    · simp only [h, decide_true, br_true]
      exact ⟨false, rfl, ⟨fun h => (by cases h), fun h => by omega⟩⟩
    · simp only [h, decide_false, br_false]
      obtain ⟨q, rfl⟩ : ∃ q, k = q + 3 := ⟨k - 3, by omega⟩
      obtain ⟨b, hb, hbi⟩ := dr_l q s (by omega) hv (q + 3) 0 (by omega) (by omega)
      exact ⟨b, hb, hbi.trans ⟨fun h2 => ⟨(can_iff hv).2 h2, by omega⟩, fun h2 => (can_iff hv).1 h2.1⟩⟩
/-! ### The next one's number -/
def lastN (r : Int) (n : Int) (l : List Dot) : Int := l.foldl (fun n d => if d.1 = r then d.2 else n) n
def maxN (r : Int) (n : Int) (l : List Dot) : Int := l.foldl (fun n d => if d.1 = r ∧ n < d.2 then d.2 else n) n
theorem last_max (r : Int) : ∀ (l : List Dot) (n : Int), l.Pairwise (fun a b => dotLt a b = true) → (∀ d ∈ l, d.1 = r → n < d.2) → lastN r n l = maxN r n l
  | [], _, _, _ => rfl
  | d :: l, n, hs, hn => by
    have hs' := List.pairwise_cons.1 hs
    show lastN r (if d.1 = r then d.2 else n) l = maxN r (if d.1 = r ∧ n < d.2 then d.2 else n) l
    by_cases h : d.1 = r
    · have h2 := hn d (by simp) h
      rw [if_pos h, if_pos ⟨h, h2⟩]
      refine last_max r l _ hs'.2 fun e he her => ?_
      have := (dotLt_iff d e).1 (hs'.1 e he)
      omega
    · rw [if_neg h, if_neg (fun hh => h hh.1)]
      exact last_max r l n hs'.2 fun e he her => hn e (List.mem_cons_of_mem _ he) her
theorem next_l (k : Nat) (l : List Dot) (r : Int) (hl : l.length < 1000000) : ∀ (n i : Nat) (x : Int), i ≤ l.length → l.length < n + i → dots_Next.l5 k n r x l (ilen l) (i : Int) = some (iadd .i64 (lastN r x (l.drop i)) 1)
  | 0, i, _, h, h' => by omega
  | n + 1, i, x, h, h' => by
    rw [dots_Next.l5_eq, ilt_nat, inL_nat, natOf_nat]
    by_cases hi : i < l.length
    · rw [rd_at' (e := tDot) hi, iadd_nat (by omega), ieq_dec, List.drop_eq_getElem_cons hi]
      simp only [hi, decide_true, br_true]
      show _ = some (iadd .i64 (lastN r (if l[i].1 = r then l[i].2 else x) (l.drop (i + 1))) 1)
      by_cases he : l[i].1 = r
      · simp only [he, decide_true, br_true, if_true]; exact next_l k l r hl n (i + 1) _ (by omega) (by omega)
      · simp only [he, decide_false, br_false, if_false]; exact next_l k l r hl n (i + 1) _ (by omega) (by omega)
    · rw [List.drop_of_length_le (by omega)]
      simp only [hi, decide_false, br_false]; rfl
theorem rnext_l (k : Nat) (s : DSet) (r : Int) (hl : s.2.length < 1000000) : ∀ (n i : Nat) (x : Int), i ≤ s.2.length → s.2.length < n + i → ref06_Next.l5 k n r x (i : Int) s = some (iadd .i64 (maxN r x (s.2.drop i)) 1)
  | 0, i, _, h, h' => by omega
  | n + 1, i, x, h, h' => by
    rw [ref06_Next.l5_eq, ilt_nat, inL_nat, natOf_nat]
    by_cases hi : i < s.2.length
    · rw [rd_at' (e := tDot) hi, iadd_nat (by omega), ieq_dec, ilt_dec, List.drop_eq_getElem_cons hi]
      simp only [hi, decide_true, br_true]
      show _ = some (iadd .i64 (maxN r (if s.2[i].1 = r ∧ x < s.2[i].2 then s.2[i].2 else x) (s.2.drop (i + 1))) 1)
      by_cases he : s.2[i].1 = r
      · by_cases h2 : x < s.2[i].2
        · simp only [he, h2, decide_true, br_true, and_self, if_true]; exact rnext_l k s r hl n (i + 1) _ (by omega) (by omega)
        · simp only [he, h2, decide_true, decide_false, br_true, br_false, and_false, if_false]; exact rnext_l k s r hl n (i + 1) _ (by omega) (by omega)
      · simp only [he, decide_false, br_false, false_and, if_false]; exact rnext_l k s r hl n (i + 1) _ (by omega) (by omega)
    · rw [List.drop_of_length_le (by omega)]
      simp only [hi, decide_false, br_false]; rfl
theorem next_same (k : Nat) (s : DSet) (r : Int) (hs : Can s) (hl : s.2.length < k) (hk : k < 1000000) : ∃ n, dots_Next.f k s r = some n ∧ ref06_Next.f k s r = some n := by
  rw [dots_Next.f_eq, ref06_Next.f_eq, ilt_dec, ilt_dec, ile_dec]
  by_cases h0 : r < 0
  · simp only [h0, decide_true, br_true]; exact ⟨0, rfl, rfl⟩
  · by_cases h1 : 16 ≤ r
    · have h2 : 15 < r := by omega
      simp only [h0, h1, h2, decide_true, decide_false, br_true, br_false]; exact ⟨0, rfl, rfl⟩
    · have h2 : ¬ 15 < r := by omega
      rw [inB16 (by omega) (by omega)]
      simp only [h0, h1, h2, decide_false, br_true, br_false]
      have e1 := next_l k s.2 r (by omega) k 0 (rd (.int .i64) s.1 (natOf r)) (by omega) (by omega)
      have e2 := rnext_l k s r (by omega) k 0 (rd (.int .i64) s.1 (natOf r)) (by omega) (by omega)
      rw [List.drop_zero] at e1 e2
      rw [last_max r s.2 _ hs.srt (fun d hd hr => by
        have := hs.gap d hd
        rw [hr] at this
        have e : rd (.int .i64) s.1 (natOf r) = vat s.1 r := rfl
        rw [e]; omega)] at e1
      exact ⟨_, e1, e2⟩
/-! ### How many -/
theorem sum_step {v : Vec} {i : Nat} (h : i < v.length) : (v.drop i).sum = v[i] + (v.drop (i + 1)).sum := by rw [List.drop_eq_getElem_cons h, List.sum_cons]
theorem vcount_l (k : Nat) (v : Vec) (hv : VOk v) : ∀ (n i : Nat) (x : Int), i ≤ 16 → 16 < n + i → 0 ≤ x → x ≤ 1048576 * i → vec_Count.l3 k n x v (i : Int) = some (x + (v.drop i).sum) ∧ x + (v.drop i).sum ≤ 1048576 * 16 ∧ 0 ≤ x + (v.drop i).sum
  | 0, i, _, h, h', _, _ => by omega
  | n + 1, i, x, h, h', h0, h1 => by
    rw [vec_Count.l3_eq, natOf_nat]
    have e1 : ilt (i : Int) 16 = decide (i < 16) := ilt_nn i 16
    rw [e1, inB_nat]
    have hlen := hv.len
    by_cases hi : i < 16
    · have hv' : rd (.int .i64) v i = v[i] := rd_at' (e := .int .i64) (by omega)
      have hvat : vat v (i : Int) = v[i] := vat_get (by omega)
      have a := hv.lo i (by omega) (by omega)
      have b := hv.hi i (by omega) (by omega)
      rw [hvat] at a b
      have hmax : imax 0 v[i] = v[i] := by unfold imax; split <;> omega
      rw [hv', hmax, iadd_s (by omega) (by omega) (by omega) (by omega), iadd_nat (by omega), sum_step (by omega : i < v.length)]
      simp only [hi, decide_true, br_true]
      have := vcount_l k v hv n (i + 1) (x + v[i]) (by omega) (by omega) (by omega) (by omega)
      rw [Int.add_assoc] at this
      exact this
    · rw [List.drop_of_length_le (by omega)]
      simp only [hi, decide_false, br_false, List.sum_nil, Int.add_zero]
      exact ⟨trivial, by omega, h0⟩
theorem lcount_l (k : Nat) (s : DSet) (hv : VOk s.1) (c : Int) (c0 : 0 ≤ c) (c1 : c ≤ 1000000) : ∀ (n i : Nat) (x : Int), i ≤ 16 → 16 < n + i → 0 ≤ x → x ≤ c + 1048576 * i → law06_count.l3 k n x (i : Int) s = some (x + (s.1.drop i).sum)
  | 0, i, _, h, h', _, _ => by omega
  | n + 1, i, x, h, h', h0, h1 => by
    rw [law06_count.l3_eq, natOf_nat]
    have e1 : ilt (i : Int) 16 = decide (i < 16) := ilt_nn i 16
    rw [e1, inB_nat]
    have hlen := hv.len
    by_cases hi : i < 16
    · have hv' : rd (.int .i64) s.1 i = s.1[i] := rd_at' (e := .int .i64) (by omega)
      have hvat : vat s.1 (i : Int) = s.1[i] := vat_get (by omega)
      have a := hv.lo i (by omega) (by omega)
      have b := hv.hi i (by omega) (by omega)
      rw [hvat] at a b
      rw [hv', iadd_s (by omega) (by omega) (by omega) (by omega), iadd_nat (by omega), sum_step (by omega : i < s.1.length)]
      simp only [hi, decide_true, br_true]
      rw [lcount_l k s hv c c0 c1 n (i + 1) (x + s.1[i]) (by omega) (by omega) (by omega) (by omega), Int.add_assoc]
    · rw [List.drop_of_length_le (by omega)]
      simp only [hi, decide_false, br_false, List.sum_nil, Int.add_zero]
theorem count_same (k : Nat) (s : DSet) (hs : Can s) (hl : s.2.length ≤ 1000000) (hk : 17 < k) : ∃ n, dots_Count.f k s = some n ∧ law06_count.f k s = some n := by
  obtain ⟨a, b, c⟩ := vcount_l k s.1 hs.vok k 0 0 (by omega) (by omega) (by omega) (by omega)
  have e := lcount_l k s hs.vok (ilen s.2) (by unfold ilen; omega) (by unfold ilen; omega) k 0 (ilen s.2) (by omega) (by omega) (by unfold ilen; omega) (by omega)
  rw [List.drop_zero] at a b c e
  rw [Int.zero_add] at a b c
  refine ⟨ilen s.2 + s.1.sum, ?_, ?_⟩
  · rw [dots_Count.f_eq, vec_Count.f_eq]
    rw [show vec_Count.l3 k k 0 s.1 0 = _ from a]
    simp only [bnd_some]
    rw [iadd_s (by omega) (by omega) (by unfold ilen; omega) (by unfold ilen; omega), Int.add_comm]
  · rw [law06_count.f_eq]; exact e
end Go.Proofs.Ytennedlpmacicaa
