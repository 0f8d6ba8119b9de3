/- The functions that the statement reaches, and what they come to. Part 4. -/
import Derived.KernelRfl
import Derived.Test.YtoikjekpckhgeaaGreatFw1
import Derived.Test.YtoikjekpckhgeaaGreatFw2
import Derived.Test.YtoikjekpckhgeaaGreatFw3
import Derived.Test.YtoikjekpckhgeaaGreatPb1
import Derived.Test.YtoikjekpckhgeaaGreatPb2
import Derived.Test.YtoikjekpckhgeaaGreatPb3
set_option linter.unusedVariables false
set_option linter.unusedSimpArgs false
set_option linter.unusedSectionVars false
section
/- Unions, and what is within what. -/
namespace Go.Proofs.YtoikjekpckhgeaaGreat
open Pal
def vmax (v u : Vec) : Vec := (List.range 16).map fun (i : Nat) => max (vat v (i : Int)) (vat u (i : Int))
theorem vmax_len (v u : Vec) : (vmax v u).length = 16 := by simp [vmax]
theorem vmax_at (v u : Vec) (r : Int) (h0 : 0 ≤ r) (h1 : r < 16) : vat (vmax v u) r = max (vat v r) (vat u r) := by
  obtain ⟨a, rfl⟩ := Int.eq_ofNat_of_zero_le h0
  rw [vat_get (by rw [vmax_len]; omega)]
  simp [vmax]
theorem vmax_ok {v u : Vec} (hv : VOk v) (hu : VOk u) : VOk (vmax v u) :=
  ⟨vmax_len v u, fun r h0 h1 => by rw [vmax_at v u r h0 h1]; have := hv.lo r h0 h1; omega, fun r h0 h1 => by rw [vmax_at v u r h0 h1]; have := hv.hi r h0 h1; have := hu.hi r h0 h1; omega⟩
/-- Up to i the greater ones, then those of the first. -/
def upTo (v u m : Vec) (i : Nat) : Prop := m.length = 16 ∧ ∀ r : Int, 0 ≤ r → r < 16 → vat m r = if r < (i : Int) then max (vat v r) (vat u r) else vat v r
theorem upTo_end {v u m : Vec} (h : upTo v u m 16) : m = vmax v u := vec_ext h.1 (vmax_len v u) fun r h0 h1 => by rw [h.2 r h0 h1, if_pos (by omega), vmax_at v u r h0 h1]
theorem upTo_step {v u m : Vec} {i : Nat} {x : Int} (h : upTo v u m i) (hi : i < 16) (hx : x = max (vat v (i : Int)) (vat u (i : Int))) : upTo v u (upd m i x) (i + 1) := by
  refine ⟨by simp [upd, h.1], fun r h0 h1 => ?_⟩
  have := vat_upd (v := m) (r := (i : Int)) (x := x) (by omega) (by rw [h.1]; omega) r h0
  rw [natOf_nat] at this
  rw [this]
  by_cases e : r = (i : Int)
  · rw [if_pos e, if_pos (by omega), hx, e]
  · rw [if_neg e, h.2 r h0 h1]
    by_cases e2 : r < (i : Int)
    · rw [if_pos e2, if_pos (by omega)]
    · rw [if_neg e2, if_neg (by omega)]
theorem upTo_skip {v u m : Vec} {i : Nat} (h : upTo v u m i) (hx : vat v (i : Int) = max (vat v (i : Int)) (vat u (i : Int))) : upTo v u m (i + 1) := by
  refine ⟨h.1, fun r h0 h1 => ?_⟩
  rw [h.2 r h0 h1]
  by_cases e : r = (i : Int)
  · subst e; rw [if_neg (by omega), if_pos (by omega)]; exact hx
  · by_cases e2 : r < (i : Int)
    · rw [if_pos e2, if_pos (by omega)]
    · rw [if_neg e2, if_neg (by omega)]
theorem imax_is (a b : Int) : imax a b = max a b := by unfold imax; split <;> omega
theorem both_l (k : Nat) (v u za : Vec) : ∀ (n i : Nat) (m : Vec), i ≤ 16 → 16 < n + i → upTo v u m i → vec_both_vec_Join_1.l2 k n (i : Int) m u za = some (vmax v u)
  | 0, i, _, h, h', _ => by omega
  | n + 1, i, m, h, h', hm => by
    rw [vec_both_vec_Join_1.l2_eq, natOf_nat]
    have e1 : ilt (i : Int) 16 = decide (i < 16) := ilt_nn i 16
    rw [e1, inB_nat]
    by_cases hi : i < 16
    · have h1 : rd (.int .i64) m i = vat m (i : Int) := rfl
      have h2 : rd (.int .i64) u i = vat u (i : Int) := rfl
      have h3 : vat m (i : Int) = vat v (i : Int) := by rw [hm.2 i (by omega) (by omega), if_neg (by omega)]
      rw [h1, h2, h3, vec_Join_1.f_eq, imax_is, iadd_nat (by omega)]
      simp only [hi, decide_true, br_true, bnd_some]
      exact both_l k v u za n (i + 1) _ (by omega) (by omega) (upTo_step hm hi rfl)
    · have : i = 16 := by omega
      subst this
      simp only [Nat.lt_irrefl, decide_false, br_false]
      rw [upTo_end hm]
theorem join_is (k : Nat) (v u : Vec) (hv : v.length = 16) (hk : 17 < k) : vec_Join.f k v u = some (vmax v u) := by
  rw [vec_Join.f_eq, vec_both_vec_Join_1.f_eq]
  have := both_l k v u (zarr 16 0) k 0 v (by omega) (by omega) ⟨hv, fun r h0 _ => by rw [if_neg (by omega)]⟩
  rw [show vec_both_vec_Join_1.l2 k k 0 v u (zarr 16 0) = _ from this]; rfl
theorem rjoin_l (k : Nat) (v u za : Vec) : ∀ (n i : Nat) (m : Vec), i ≤ 16 → 16 < n + i → upTo v u m i → ref05_Join.l3 k n (i : Int) v u za m = some (vmax v u)
  | 0, i, _, h, h', _ => by omega
  | n + 1, i, m, h, h', hm => by
    rw [ref05_Join.l3_eq, natOf_nat]
    have e1 : ilt (i : Int) 16 = decide (i < 16) := ilt_nn i 16
    rw [e1, inB_nat]
    by_cases hi : i < 16
    · have h1 : rd (.int .i64) v i = vat v (i : Int) := rfl
      have h2 : rd (.int .i64) u i = vat u (i : Int) := rfl
      rw [h1, h2, iadd_nat (by omega), ilt_dec]
      simp only [hi, decide_true, br_true]
      by_cases hlt : vat v (i : Int) < vat u (i : Int)
      · simp only [hlt, decide_true, br_true]
        exact rjoin_l k v u za n (i + 1) _ (by omega) (by omega) (upTo_step hm hi (by omega))
      · simp only [hlt, decide_false, br_false]
        exact rjoin_l k v u za n (i + 1) _ (by omega) (by omega) (upTo_skip hm (by omega))
    · have : i = 16 := by omega
      subst this
      simp only [Nat.lt_irrefl, decide_false, br_false]
      rw [upTo_end hm]
theorem rjoin_is (k : Nat) (v u : Vec) (hv : v.length = 16) (hk : 17 < k) : ref05_Join.f k v u = some (vmax v u) := by
  rw [ref05_Join.f_eq]
  exact rjoin_l k v u (zarr 16 0) k 0 v (by omega) (by omega) ⟨hv, fun r h0 _ => by rw [if_neg (by omega)]⟩
/-! ### Unions -/
def unionD (s t : DSet) : DSet := mk (vmax s.1 t.1) (isort dotLt (s.2 ++ t.2))
theorem unionD_can {s t : DSet} (hs : Can s) (ht : Can t) : Can (unionD s t) ∧ (∀ x, Mem (unionD s t) x ↔ Mem s x ∨ Mem t x) ∧ (unionD s t).2.length ≤ s.2.length + t.2.length := by
  have hmem : ∀ d, d ∈ isort dotLt (s.2 ++ t.2) ↔ d ∈ s.2 ∨ d ∈ t.2 := fun d => by rw [(isort_perm dotLt _).mem_iff, List.mem_append]
  obtain ⟨h1, h2, h3, _⟩ := mk_can (vmax_ok hs.vok ht.vok) (isort dotLt (s.2 ++ t.2)) (fun d hd => ((hmem d).1 hd).elim (hs.rt d) (ht.rt d)) (isort_sorted dotLt_swo _)
  refine ⟨h1, fun x => ?_, ?_⟩
  · rw [show Mem (unionD s t) x ↔ _ from h2 x, hmem]
    constructor
    · rintro ⟨a, b | b | b⟩
      · obtain ⟨q0, q1, _, _⟩ := (rightD_iff x).1 a
        rw [vmax_at _ _ x.1 q0 q1] at b
        rcases (by omega : x.2 ≤ vat s.1 x.1 ∨ x.2 ≤ vat t.1 x.1) with h | h
        · exact .inl ⟨a, .inl h⟩
        · exact .inr ⟨a, .inl h⟩
      · exact .inl ⟨a, .inr b⟩
      · exact .inr ⟨a, .inr b⟩
    · rintro (⟨a, b⟩ | ⟨a, b⟩)
      · obtain ⟨q0, q1, _, _⟩ := (rightD_iff x).1 a
        refine ⟨a, b.imp (fun h => ?_) .inl⟩
        rw [vmax_at _ _ x.1 q0 q1]; omega
      · obtain ⟨q0, q1, _, _⟩ := (rightD_iff x).1 a
        refine ⟨a, b.imp (fun h => ?_) .inr⟩
        rw [vmax_at _ _ x.1 q0 q1]; omega
  · refine Nat.le_trans h3 ?_
    rw [(isort_perm dotLt _).length_eq, List.length_append]; exact Nat.le_refl _
theorem concat_is (k : Nat) (a b : List Dot) (ha : a.length ≤ 1000000) (hb : b.length ≤ 1000000) (hk : 3 ≤ k) : slices_Concat_api_Dot_api_Dot.f k (a :: (b :: [])) = some (a ++ b) := by
  obtain ⟨q, rfl⟩ : ∃ q, k = q + 1 + 1 + 1 := ⟨k - 3, by omega⟩
  rw [slices_Concat_api_Dot_api_Dot.f_eq, slices_Concat_api_Dot_api_Dot.l3_eq, slices_Concat_api_Dot_api_Dot.l3_eq, slices_Concat_api_Dot_api_Dot.l3_eq]
  rw [slices_Concat_api_Dot_api_Dot.l11_eq, slices_Concat_api_Dot_api_Dot.l11_eq, slices_Concat_api_Dot_api_Dot.l11_eq]
  have i1 : iadd .i64 0 1 = 1 := rfl
  have i2 : iadd .i64 1 1 = 2 := rfl
  have l2 : ilen (a :: (b :: [])) = 2 := rfl
  have r0 : rd (.slc tDot) (a :: (b :: [])) (natOf 0) = a := rfl
  have r1 : rd (.slc tDot) (a :: (b :: [])) (natOf 1) = b := rfl
  have n0 : inL 0 (a :: (b :: [])) = true := rfl
  have n1 : inL 1 (a :: (b :: [])) = true := rfl
  have t0 : ilt 0 2 = true := rfl
  have t1 : ilt 1 2 = true := rfl
  have t2 : ilt 2 2 = false := rfl
  have s0 : iadd .i64 0 (ilen a) = ilen a := by rw [iadd_s (by omega) (by omega) (by unfold ilen; omega) (by unfold ilen; omega), Int.zero_add]
  have s1 : iadd .i64 (ilen a) (ilen b) = ilen a + ilen b := iadd_s (by unfold ilen; omega) (by unfold ilen; omega) (by unfold ilen; omega) (by unfold ilen; omega)
  have g0 : ilt (ilen a) 0 = false := decide_eq_false (by unfold ilen; omega)
  have g1 : ilt (ilen a + ilen b) 0 = false := decide_eq_false (by unfold ilen; omega)
  have g2 : ilt 4294967296 (ilen a + ilen b) = false := decide_eq_false (by unfold ilen; omega)
  have m0 : room ([] : List Int) ([] : List Int) = true := rfl
  have m1 : room ([] : List Dot) a = true := decide_eq_true (by show 0 + a.length ≤ 4294967296; omega)
  have m2 : room (app ([] : List Dot) a) b = true := decide_eq_true (by show a.length + b.length ≤ 4294967296; omega)
  rw [i1, l2, i2, r0, r1, n0, n1, t0, t1, t2, s0, s1, g0, g1, g2, m0, m1, m2]
  simp only [br_true, br_false, app, List.nil_append]
theorem union_is (k : Nat) (s t : DSet) (hs : Can s) (ht : Can t) (hl : s.2.length + t.2.length < k) (h17 : 17 < k) (hk : k < 1000000) : dots_Union.f k s t = some (unionD s t) := by
  have hmem : ∀ d, d ∈ isort dotLt (s.2 ++ t.2) ↔ d ∈ s.2 ∨ d ∈ t.2 := fun d => by rw [(isort_perm dotLt _).mem_iff, List.mem_append]
  rw [dots_Union.f_eq, concat_is k _ _ (by omega) (by omega) (by omega)]
  simp only [bnd_some]
  have e : room ([] : List Int) (s.2 ++ t.2) = true := by simp [room]; omega
  rw [e, join_is k _ _ hs.vok.len h17]
  simp only [br_true, bnd_some]
  rw [made_is k _ (by rw [(isort_perm dotLt _).length_eq, List.length_append]; exact hl) hk (fun d hd => ((hmem d).1 hd).elim (hs.rt d) (ht.rt d)) (isort_sorted dotLt_swo _) _ (vmax_ok hs.vok ht.vok)]
  rfl
theorem puts_can : ∀ (l : List Dot) (s : DSet), Can s → (∀ d ∈ l, rightD d = true) → Can (l.foldl putD s) ∧ (∀ x, Mem (l.foldl putD s) x ↔ Mem s x ∨ x ∈ l) ∧ (l.foldl putD s).2.length ≤ s.2.length + l.length
  | [], s, hs, _ => ⟨hs, fun x => by simp, Nat.le_refl _⟩
  | d :: l, s, hs, hr => by
    obtain ⟨a, b, c⟩ := putD_can hs d
    obtain ⟨p, q, r⟩ := puts_can l (putD s d) a (fun e he => hr e (List.mem_cons_of_mem _ he))
    refine ⟨p, fun x => ?_, by simp only [List.length_cons]; show ((d :: l).foldl putD s).2.length ≤ _; simp only [List.foldl_cons]; omega⟩
    show Mem (l.foldl putD (putD s d)) x ↔ _
    rw [q, b, List.mem_cons]
    have hd := hr d (by simp)
    constructor
    · rintro ((h | ⟨_, h⟩) | h)
      · exact .inl h
      · exact .inr (.inl h)
      · exact .inr (.inr h)
    · rintro (h | h | h)
      · exact .inl (.inl h)
      · exact .inl (.inr ⟨hd, h⟩)
      · exact .inr h
theorem runion_l (k : Nat) (t : DSet) (hk : k < 1000000) (htl : t.2.length < 1000000) (hr : ∀ d ∈ t.2, rightD d = true) (za : Vec) (zb : List Dot) : ∀ (n i : Nat) (s : DSet), Can s → i ≤ t.2.length → t.2.length < n + i → s.2.length + (t.2.length - i) < k → ref06_Union.l3 k n (i : Int) t za zb s = some ((t.2.drop i).foldl putD s)
  | 0, i, _, _, h, h', _ => by omega
  | n + 1, i, s, hs, h, h', hl => by
    rw [ref06_Union.l3_eq, ilt_nat, inL_nat, natOf_nat]
    by_cases hi : i < t.2.length
    · rw [rd_at' (e := tDot) hi, iadd_nat (by omega), rput_is k s t.2[i] (by omega) hk hs, List.drop_eq_getElem_cons hi]
      simp only [hi, decide_true, br_true, bnd_some, List.foldl_cons]
      obtain ⟨a, _, c⟩ := putD_can hs t.2[i]
      exact runion_l k t hk htl hr za zb n (i + 1) _ a (by omega) (by omega) (by omega)
    · rw [List.drop_of_length_le (by omega)]
      simp only [hi, decide_false, br_false, List.foldl_nil]
theorem runion_is (k : Nat) (s t : DSet) (hs : Can s) (ht : Can t) (hl : s.2.length + t.2.length < k) (h17 : 17 < k) (hk : k < 1000000) : ref06_Union.f k s t = some (unionD s t) := by
  obtain ⟨h1, h2, h3, _⟩ := mk_can (vmax_ok hs.vok ht.vok) s.2 hs.rt (hs.srt.imp dotLt_asym)
  obtain ⟨p, q, _⟩ := puts_can t.2 _ h1 ht.rt
  obtain ⟨u1, u2, _⟩ := unionD_can hs ht
  rw [ref06_Union.f_eq, rjoin_is k _ _ hs.vok.len h17]
  simp only [bnd_some]
  rw [filled_is k (vmax s.1 t.1, s.2) (by show s.2.length < k; omega) hk hs.rt hs.srt (vmax_ok hs.vok ht.vok)]
  simp only [bnd_some]
  have := runion_l k t hk (by omega) ht.rt (zarr 16 0) [] k 0 _ h1 (by omega) (by omega) (by omega)
  rw [List.drop_zero] at this
  rw [show ref06_Union.l3 k k 0 t (zarr 16 0) [] (mk (vmax s.1 t.1) s.2) = _ from this]
  congr 1
  refine can_unique p u1 fun x => ?_
  rw [q, h2, u2]
  constructor
  · rintro (⟨a, b | b⟩ | b)
    · obtain ⟨q0, q1, _, _⟩ := (rightD_iff x).1 a
      rw [vmax_at _ _ x.1 q0 q1] at b
      rcases (by omega : x.2 ≤ vat s.1 x.1 ∨ x.2 ≤ vat t.1 x.1) with h | h
      · exact .inl ⟨a, .inl h⟩
      · exact .inr ⟨a, .inl h⟩
    · exact .inl ⟨a, .inr b⟩
    · exact .inr ⟨ht.rt x b, .inr b⟩
  · rintro (⟨a, b⟩ | ⟨a, b⟩)
    · obtain ⟨q0, q1, _, _⟩ := (rightD_iff x).1 a
      refine .inl ⟨a, b.imp (fun h => ?_) id⟩
      rw [vmax_at _ _ x.1 q0 q1]; omega
    · obtain ⟨q0, q1, _, _⟩ := (rightD_iff x).1 a
      rcases b with h | h
      · refine .inl ⟨a, .inl ?_⟩
        rw [vmax_at _ _ x.1 q0 q1]; omega
      · exact .inr h
/-! ### Within -/
theorem union_eq {s t : DSet} (hs : Can s) (ht : Can t) : unionD s t = t ↔ ∀ x, Mem s x → Mem t x := by
  obtain ⟨u1, u2, _⟩ := unionD_can hs ht
  constructor
  · intro h x hx; rw [← h]; exact (u2 x).2 (.inl hx)
  · intro h; exact can_unique u1 ht fun x => by rw [u2]; exact ⟨fun hh => hh.elim (h x) id, .inr⟩
theorem rw_l11 (k n7 : Nat) (s t : DSet) (ht : Can t) (hl : t.2.length < 1000000) (r : Nat) (hr : r < 16) : ∀ (n i : Nat), i ≤ t.2.length → t.2.length < n + i →
    ref06_Within.l11 k n7 n (r : Int) (vat t.1 (r : Int)) (i : Int) s t = br (ilt (vat t.1 (r : Int)) (vat s.1 (r : Int))) (some false) (ref06_Within.l7 k n7 ((r + 1 : Nat) : Int) s t)
  | 0, i, h, h' => by omega
  | n + 1, i, h, h' => by
    rw [ref06_Within.l11_eq, ilt_nat, inL_nat]
    by_cases hi : i < t.2.length
    · have v0 := ht.vok.lo r (by omega) (by omega)
      have v1 := ht.vok.hi r (by omega) (by omega)
      have ih := rw_l11 k n7 s t ht hl r hr n (i + 1) (by omega) (by omega)
      have e1 : iadd .i64 (i : Int) 1 = ((i + 1 : Nat) : Int) := iadd_nat (by omega)
      rw [natOf_nat, rd_at' (e := tDot) hi, e1, iadd_s (by omega) (by omega) (by omega) (by omega), ieq_dec, ieq_dec]
      simp only [hi, decide_true, br_true]
      by_cases he : t.2[i].1 = (r : Int)
      · have hg := ht.gap _ (List.getElem_mem hi)
        rw [he] at hg
        have hne : ¬ t.2[i].2 = vat t.1 (r : Int) + 1 := by omega
        simp only [he, hne, decide_true, decide_false, br_true, br_false]
        exact ih
      · simp only [he, decide_false, br_false]
        exact ih
    · simp only [hi, decide_false, br_false]
      have e1 : inB (r : Int) 16 = true := inB16 (by omega) (by omega)
      rw [e1, iadd_nat (by omega)]
      rfl
theorem rw_l7 (k : Nat) (s t : DSet) (ht : Can t) (hl : t.2.length < k) (hk : k < 1000000) : ∀ (n r : Nat), r ≤ 16 → 16 < n + r → ∃ c, ref06_Within.l7 k n (r : Int) s t = some c ∧ (c = true ↔ ∀ q : Int, (r : Int) ≤ q → q < 16 → vat s.1 q ≤ vat t.1 q)
  | 0, r, h, h' => by omega
  | n + 1, r, h, h' => by
    rw [ref06_Within.l7_eq]
    have e1 : ilt (r : Int) 16 = decide (r < 16) := ilt_nn r 16
    rw [e1, inB_nat]
    by_cases hr : r < 16
    · simp only [hr, decide_true, br_true]
      have e := rw_l11 k n s t ht (by omega) r hr k 0 (by omega) (by omega)
      rw [show ref06_Within.l11 k n k (r : Int) (rd (.int .i64) t.1 (natOf (r : Int))) 0 s t = _ from e, ilt_dec]
      obtain ⟨c, hc, hci⟩ := rw_l7 k s t ht hl hk n (r + 1) (by omega) (by omega)
      by_cases hlt : vat t.1 (r : Int) < vat s.1 (r : Int)
      · simp only [hlt, decide_true, br_true]
        exact ⟨false, rfl, ⟨fun h => (by cases h), fun h => by have := h r (Int.le_refl _) (by omega); omega⟩⟩
      · simp only [hlt, decide_false, br_false]
        refine ⟨c, hc, hci.trans ⟨fun h q h1 h2 => ?_, fun h q h1 h2 => h q (by omega) h2⟩⟩
        by_cases e : q = (r : Int)
        · subst e; omega
        · exact h q (by omega) h2
    · simp only [hr, decide_false, br_false]
      exact ⟨true, rfl, ⟨fun _ q h1 h2 => by omega, fun _ => rfl⟩⟩
theorem rw_l2 (k : Nat) (s t : DSet) (hs : Can s) (ht : Can t) (hl : t.2.length < k) (hl2 : s.2.length < k) (hk : k < 1000000) (h17 : 17 < k) : ∀ (n i : Nat), i ≤ s.2.length → s.2.length < n + i → ∃ c, ref06_Within.l2 k n (i : Int) s t = some c ∧ (c = true ↔ (∀ d ∈ s.2.drop i, Mem t d) ∧ ∀ q : Int, 0 ≤ q → q < 16 → vat s.1 q ≤ vat t.1 q)
  | 0, i, h, h' => by omega
  | n + 1, i, h, h' => by
    rw [ref06_Within.l2_eq, ilt_nat, inL_nat, natOf_nat]
    by_cases hi : i < s.2.length
    · rw [rd_at' (e := tDot) hi, iadd_nat (by omega), rhas_is k t _ hl hk ht.rt, List.drop_eq_getElem_cons hi]
      simp only [hi, decide_true, br_true, bnd_some]
      obtain ⟨c, hc, hci⟩ := rw_l2 k s t hs ht hl hl2 hk h17 n (i + 1) (by omega) (by omega)
      cases hm : memB t s.2[i] with
      | false =>
        have e : bnot false = true := rfl
        rw [e]
        exact ⟨false, rfl, ⟨fun h => (by cases h), fun h => by have := (memB_iff _ _).2 (h.1 _ (List.mem_cons_self ..)); rw [hm] at this; cases this⟩⟩
      | true =>
        have e : bnot true = false := rfl
        rw [e]
        refine ⟨c, hc, hci.trans ⟨fun h => ⟨fun d hd => ?_, h.2⟩, fun h => ⟨fun d hd => h.1 d (List.mem_cons_of_mem _ hd), h.2⟩⟩⟩
        rcases List.mem_cons.1 hd with rfl | hd
        · exact (memB_iff _ _).1 hm
        · exact h.1 d hd
    · rw [List.drop_of_length_le (by omega)]
      simp only [hi, decide_false, br_false]
      obtain ⟨c, hc, hci⟩ := rw_l7 k s t ht hl hk k 0 (by omega) (by omega)
      exact ⟨c, hc, hci.trans ⟨fun h => ⟨fun d hd => by simp at hd, h⟩, fun h => h.2⟩⟩
theorem rwithin_is (k : Nat) (s t : DSet) (hs : Can s) (ht : Can t) (hl : t.2.length < k) (hl2 : s.2.length < k) (hk : k < 1000000) (h17 : 17 < k) : ref06_Within.f k s t = some (decide (unionD s t = t)) := by
  rw [ref06_Within.f_eq]
  obtain ⟨c, hc, hci⟩ := rw_l2 k s t hs ht hl hl2 hk h17 k 0 (by omega) (by omega)
  rw [show ref06_Within.l2 k k 0 s t = _ from hc]
  congr 1
  rw [Bool.eq_iff_iff, hci, decide_eq_true_iff, union_eq hs ht, List.drop_zero]
  constructor
  · rintro ⟨h1, h2⟩ x ⟨a, b | b⟩
    · obtain ⟨q0, q1, _, _⟩ := (rightD_iff x).1 a
      exact ⟨a, .inl (Int.le_trans b (h2 x.1 q0 q1))⟩
    · exact h1 x b
  · intro h
    exact ⟨fun d hd => h d ⟨hs.rt d hd, .inr hd⟩, fun q h0 h1 => can_le hs ht h q h0 h1⟩
end Go.Proofs.YtoikjekpckhgeaaGreat
end
section
/- What the program's tally, and the document's, come to. -/
namespace Go.Proofs.YtoikjekpckhgeaaGreat
open Pal
theorem cmp_gt0 (a b : Dot) : ilt 0 (cmpD a b) = dotLt b a := by
  rw [Bool.eq_iff_iff]
  show decide (0 < cmpD a b) = true ↔ _
  rw [decide_eq_true_iff]
  have := cmpD_le a b
  constructor
  · intro h; cases hl : dotLt b a with
    | true => rfl
    | false => have := this.2 hl; omega
  · intro h
    by_cases h1 : 0 < cmpD a b
    · exact h1
    · have := this.1 (by omega); rw [h] at this; cases this
theorem rone_is (k : Nat) (u : Undo) : ref08_one.f k u = some (rightU u) := by
  rw [ref08_one.f_eq, rright_is]
  simp only [bnd_some]
  unfold rightU
  cases rightD u.1 with
  | false => rfl
  | true =>
    simp only [br_true, ile_dec, br_dec, Bool.true_and]
    by_cases h : 1 ≤ u.2
    · rw [if_pos h]; simp [h]
    · rw [if_neg h]; simp [h]
theorem deqU (a b : Undo) : deq tUndo a b = decide (a = b) := deq_dec (τ := tUndo) rfl a b
theorem canU_iff {l : List Undo} : CanU l ↔ ∀ j (h : j < l.length), rightU l[j] = true ∧ ∀ h0 : 0 < j, dotLt (l[j - 1]'(by omega)).1 l[j].1 = true := by
  constructor
  · intro h j hj
    exact ⟨h.rt _ (List.getElem_mem hj), fun h0 => List.pairwise_iff_getElem.1 h.srt (j - 1) j (by omega) hj (by omega)⟩
  · intro h
    refine ⟨fun u hu => ?_, List.pairwise_iff_getElem.2 fun i j hi hj hij => ?_⟩
    · obtain ⟨j, hj, rfl⟩ := List.mem_iff_getElem.1 hu
      exact (h j hj).1
    · have key : ∀ d j (hj : j < l.length) (hd : d + 1 ≤ j), dotLt (l[j - (d + 1)]'(by omega)).1 l[j].1 = true := by
        intro d
        induction d with
        | zero => intro j hj hd; exact (h j hj).2 (by omega)
        | succ d ih =>
          intro j hj hd
          have h1 := ih j hj (by omega)
          have h2 := (h (j - (d + 1)) (by omega)).2 (by omega)
          have e : j - (d + 1) - 1 = j - (d + 1 + 1) := by omega
          simp only [e] at h2
          exact dotLt_trans h2 h1
      have := key (j - i - 1) j hj (by omega)
      have e : j - (j - i - 1 + 1) = i := by omega
      simpa only [e] using this
def okU (l : List Undo) (j : Nat) : Prop := ∀ h : j < l.length, rightU l[j] = true ∧ ∀ h0 : 0 < j, dotLt (l[j - 1]'(by omega)).1 l[j].1 = true
theorem rrightU_is (k : Nat) (l : List Undo) (hl : l.length < k) (hk : k < 1000000) : ∃ b, ref08_Right.f k l = some b ∧ (b = true ↔ CanU l) := by
  obtain ⟨b, hb, hbi⟩ := loop_all' l.length (fun n i => ref08_Right.l2 k n l (i : Int)) (okU l) (fun n i hi => by
    simp only [ref08_Right.l2_eq, ilt_nat, inL_nat, natOf_nat, hi, decide_true, br_true, rd_at' (e := tUndo) hi, rone_is, bnd_some]
    cases hu : rightU l[i] with
    | false => exact .inr ⟨fun h => (by have := (h hi).1; rw [hu] at this; cases this), rfl⟩
    | true =>
      have e1 : bnot true = false := rfl
      have e2 : ilt 0 (i : Int) = decide (0 < i) := ilt_nn 0 i
      rw [e1, e2, iadd_nat (by omega)]
      simp only [br_false]
      by_cases h0 : 0 < i
      · have hi1 : i - 1 < l.length := by omega
        have e3 : isub .i64 (i : Int) 1 = ((i - 1 : Nat) : Int) := by rw [isub_s (by omega) (by omega) (by omega) (by omega)]; omega
        rw [e3, inL_nat, natOf_nat, rd_at' (e := tUndo) hi1, rcmp_is]
        simp only [h0, hi1, decide_true, br_true, bnd_some, cmp_m1]
        cases hd : dotLt l[i - 1].1 l[i].1 with
        | true => exact .inl ⟨fun _ => ⟨hu, fun _ => hd⟩, rfl⟩
        | false => exact .inr ⟨fun h => (by have := (h hi).2 h0; rw [hd] at this; cases this), rfl⟩
      · simp only [h0, decide_false, br_false]
        exact .inl ⟨fun _ => ⟨hu, fun h => absurd h h0⟩, trivial⟩) (fun n => by
    simp only [ref08_Right.l2_eq, ilt_nat, Nat.lt_irrefl, decide_false, br_false]) k 0 (by omega) (by omega)
  rw [ref08_Right.f_eq]
  refine ⟨b, hb, hbi.trans ?_⟩
  rw [canU_iff]
  exact ⟨fun h j hj => h j (by omega) hj hj, fun h j _ _ hj => h j hj⟩
theorem rget_is (k : Nat) (l : List Undo) (d : Dot) (hl : l.length < k) (hk : k < 1000000) : ref08_Get.f k l d = some (getU l d) := by
  rw [ref08_Get.f_eq]
  have key : ∀ n i, i ≤ l.length → l.length < n + i → ref08_Get.l2 k n l (i : Int) d = some (getU (l.drop i) d) := by
    intro n
    induction n with
    | zero => intro i h h'; omega
    | succ n ih =>
      intro i h h'
      rw [ref08_Get.l2_eq, ilt_nat, inL_nat, natOf_nat]
      by_cases hi : i < l.length
      · rw [rd_at' (e := tUndo) hi, List.drop_eq_getElem_cons hi, getU, iadd_nat (by omega), deqD]
        simp only [hi, decide_true, br_true, br_dec]
        by_cases e : l[i].1 = d
        · rw [if_pos e, if_pos e]
        · rw [if_neg e, if_neg e]; exact ih (i + 1) (by omega) (by omega)
      · rw [List.drop_of_length_le (by omega)]
        simp only [hi, decide_false, br_false]; rfl
  exact key k 0 (by omega) (by omega)
theorem tcmp_is (k : Nat) (u v : Undo) (h3 : 3 ≤ k) : tally_compare.f k u v = some (cmpD u.1 v.1) := by
  obtain ⟨q, rfl⟩ : ∃ q, k = q + 3 := ⟨k - 3, by omega⟩
  rw [tally_compare.f_eq, cmpD_is]; rfl
theorem tjoin_l (k : Nat) (h3 : 3 ≤ k) : ∀ (n : Nat) (a b x : List Undo), a.length + b.length < n → x.length + a.length + b.length < 4000000 → tally_Join.l2 k n a b x = some (x ++ joinU a b)
  | 0, a, b, x, h, _ => by omega
  | n + 1, [], [], x, h, hx => by
    rw [tally_Join.l2_eq, joinU_nil]
    simp only [ilt0, List.length_nil, Nat.lt_irrefl, decide_false, br_false, List.append_nil]
  | n + 1, [], y :: b, x, h, hx => by
    simp only [List.length_nil, List.length_cons, Nat.zero_add] at h hx
    have hr : room x (y :: []) = true := room_le (by simp only [List.length_cons, List.length_nil]; omega)
    rw [tally_Join.l2_eq]
    simp only [ilt0, ieq0, List.length_nil, Nat.lt_irrefl, decide_false, br_false, List.length_cons, Nat.zero_lt_succ, decide_true, br_true, inL0, rd0 (e := tUndo), hr, inS_tail, piece_tail]
    rw [tjoin_l k h3 n [] b _ (by simp only [List.length_nil]; omega) (by simp only [app, List.length_append, List.length_cons, List.length_nil]; omega), joinU_nil, joinU_nil]
    simp [app]
  | n + 1, y :: a, [], x, h, hx => by
    simp only [List.length_nil, List.length_cons, Nat.add_zero] at h hx
    have hr : room x (y :: []) = true := room_le (by simp only [List.length_cons, List.length_nil]; omega)
    have e0 : (a.length + 1 = 0) = False := by simp
    rw [tally_Join.l2_eq]
    simp only [ilt0, ieq0, e0, List.length_nil, Nat.lt_irrefl, decide_false, br_false, List.length_cons, Nat.zero_lt_succ, decide_true, br_true, inL0, rd0 (e := tUndo), hr, inS_tail, piece_tail]
    rw [tjoin_l k h3 n a [] _ (by simp only [List.length_nil]; omega) (by simp only [app, List.length_append, List.length_cons, List.length_nil]; omega), joinU_nil', joinU_nil']
    simp [app]
  | n + 1, u :: a, v :: b, x, h, hx => by
    simp only [List.length_cons] at h hx
    have hr : ∀ y : Undo, room x (y :: []) = true := fun y => room_le (by simp only [List.length_cons, List.length_nil]; omega)
    have e0 : (a.length + 1 = 0) = False := by simp
    have e1 : (b.length + 1 = 0) = False := by simp
    rw [tally_Join.l2_eq, joinU_cons]
    simp only [ilt0, ieq0, e0, e1, decide_false, br_false, List.length_cons, Nat.zero_lt_succ, decide_true, br_true, inL0, rd0 (e := tUndo), hr, inS_tail, piece_tail, tcmp_is k _ _ h3, bnd_some, cmp_lt0, cmp_gt0, imax_is]
    cases h1 : dotLt u.1 v.1 with
    | true =>
      simp only [br_true, if_true]
      rw [tjoin_l k h3 n a (v :: b) _ (by simp only [List.length_cons]; omega) (by simp only [app, List.length_append, List.length_cons, List.length_nil]; omega)]
      simp [app]
    | false =>
      cases h2 : dotLt v.1 u.1 with
      | true =>
        simp only [br_true, br_false, if_true]
        rw [tjoin_l k h3 n (u :: a) b _ (by simp only [List.length_cons]; omega) (by simp only [app, List.length_append, List.length_cons, List.length_nil]; omega)]
        simp [app]
      | false =>
        simp only [br_false]
        rw [tjoin_l k h3 n a b _ (by omega) (by simp only [app, List.length_append, List.length_cons, List.length_nil]; omega)]
        simp [app]
theorem tjoin_is (k : Nat) (a b : List Undo) (h3 : 3 ≤ k) (hl : a.length + b.length < k) (hk : k < 1000000) : tally_Join.f k a b = some (joinU a b) := by
  rw [tally_Join.f_eq, tjoin_l k h3 k a b [] hl (by simp only [List.length_nil]; omega)]; rfl
theorem rputU_l (k : Nat) (l : List Undo) (u : Undo) (hl : l.length < 1000000) : ∀ (n i : Nat) (x : List Undo) (b : Bool), i ≤ l.length → l.length < n + i → x.length ≤ i + b.toNat →
    ref08_Put.l6 k n l x b (i : Int) u = some (x ++ if b then (l.drop i).filter (fun y => decide (y.1 ≠ u.1)) else putF u (l.drop i))
  | 0, i, _, _, h, h', _ => by omega
  | n + 1, i, x, b, h, h', hx => by
    rw [ref08_Put.l6_eq, ilt_nat, inL_nat, natOf_nat]
    have hb : b.toNat ≤ 1 := by cases b <;> decide
    have t1 : true.toNat = 1 := rfl
    have t0 : false.toNat = 0 := rfl
    have hr : ∀ y : Undo, room x (y :: []) = true := fun y => room_le (by simp only [List.length_cons, List.length_nil]; omega)
    have hr2 : ∀ y z : Undo, room (app x (y :: [])) (z :: []) = true := fun y z => room_le (by simp only [app, List.length_append, List.length_cons, List.length_nil]; omega)
    by_cases hi : i < l.length
    · rw [rd_at' (e := tUndo) hi, rcmp_is, List.drop_eq_getElem_cons hi, iadd_nat (by omega)]
      simp only [hi, decide_true, br_true, bnd_some, hr, hr2, ieq_dec, cmpD_eq, bnot_dec, ile_dec]
      have hlen : ∀ y : Undo, (app x (y :: [])).length = x.length + 1 := fun y => by simp [app]
      cases b with
      | true =>
        have e : bnot true = false := rfl
        simp only [e, br_false, if_true, br_dec]
        by_cases he : u.1 = l[i].1
        · rw [if_neg (by simpa using he), rputU_l k l u hl n (i + 1) x true (by omega) (by omega) (by simp only [t1] at hx ⊢; omega), List.filter_cons_of_neg (by simp [he])]
          rfl
        · rw [if_pos he, rputU_l k l u hl n (i + 1) _ true (by omega) (by omega) (by rw [hlen]; simp only [t0, t1] at hx ⊢; omega), List.filter_cons_of_pos (by simpa using fun h => he h.symm)]
          simp [app]
      | false =>
        have e : bnot false = true := rfl
        simp only [e, br_true, br_dec]
        rw [putF]
        by_cases hc : cmpD u.1 l[i].1 ≤ 0
        · rw [if_pos hc, if_pos hc]
          by_cases he : u.1 = l[i].1
          · rw [if_neg (by simpa using he), rputU_l k l u hl n (i + 1) _ true (by omega) (by omega) (by rw [hlen]; simp only [t0, t1] at hx ⊢; omega), List.filter_cons_of_neg (by simp [he])]
            simp [app]
          · rw [if_pos he, rputU_l k l u hl n (i + 1) _ true (by omega) (by omega) (by simp only [app, List.length_append, List.length_cons, List.length_nil, t0, t1] at hx ⊢; omega), List.filter_cons_of_pos (by simpa using fun h => he h.symm)]
            simp [app]
        · have he : ¬ u.1 = l[i].1 := fun e => hc (by rw [(cmpD_eq _ _).2 e]; omega)
          rw [if_neg hc, if_neg hc, if_pos he, rputU_l k l u hl n (i + 1) _ false (by omega) (by omega) (by rw [hlen]; simp only [t0, t1] at hx ⊢; omega)]
          simp [app]
    · rw [List.drop_of_length_le (by omega)]
      simp only [hi, decide_false, br_false, hr]
      cases b with
      | true => have e : bnot true = false := rfl
                simp [e, br_false]
      | false => have e : bnot false = true := rfl
                 simp [e, br_true, app, putF]
theorem rputU_is (k : Nat) (l : List Undo) (u : Undo) (hl : l.length < k) (hk : k < 1000000) : ref08_Put.f k l u = some (putU l u) := by
  rw [ref08_Put.f_eq, rone_is]
  simp only [bnd_some]
  unfold putU
  cases hu : rightU u with
  | false => simp [bnot, br_true]
  | true =>
    have e : bnot true = false := rfl
    rw [e, rget_is k l _ hl hk]
    simp only [br_false, bnd_some, ile_dec, br_dec, true_and]
    by_cases h : u.2 ≤ getU l u.1
    · rw [if_pos h, if_neg (by omega)]
    · rw [if_neg h, if_pos (by omega)]
      have := rputU_l k l u (by omega) k 0 [] false (by omega) (by omega) (by simp)
      simpa using this
theorem rjoinU_is (k : Nat) (a b : List Undo) (ha : CanU a) (hl : a.length + b.length < k) (hk : k < 1000000) : ref08_Join.f k a b = some (b.foldl putU a) := by
  rw [ref08_Join.f_eq]
  have key : ∀ n i (x : List Undo), i ≤ b.length → b.length < n + i → CanU x → x.length + (b.length - i) < k → ref08_Join.l3 k n b x (i : Int) = some ((b.drop i).foldl putU x) := by
    intro n
    induction n with
    | zero => intro i x h h'; omega
    | succ n ih =>
      intro i x h h' hx hxl
      rw [ref08_Join.l3_eq, ilt_nat, inL_nat, natOf_nat]
      by_cases hi : i < b.length
      · rw [rd_at' (e := tUndo) hi, rputU_is k x _ (by omega) hk, List.drop_eq_getElem_cons hi, iadd_nat (by omega)]
        simp only [hi, decide_true, br_true, bnd_some, List.foldl_cons]
        obtain ⟨c1, _, c3⟩ := putU_can hx b[i]
        exact ih (i + 1) _ (by omega) (by omega) c1 (by omega)
      · rw [List.drop_of_length_le (by omega)]
        simp only [hi, decide_false, br_false, List.foldl_nil]
  exact key k 0 a (by omega) (by omega) ha (by omega)
theorem rsameU_is (k : Nat) (a b : List Undo) (hl : a.length < k) (hk : k < 1000000) : ref08_Same.f k a b = some (decide (a = b)) := by
  rw [ref08_Same.f_eq, ieq_len, bnot_dec]
  by_cases h : a.length = b.length
  · simp only [h, not_true, decide_false, br_false]
    exact loop_same a b h (fun n i => ref08_Same.l4 k n a b (i : Int)) (fun n i hi hi' => by
      simp only [ref08_Same.l4_eq, ilt_nat, inL_nat, natOf_nat, hi, hi', decide_true, br_true, rd_at' (e := tUndo) hi, rd_at' (e := tUndo) hi', deqU, bnot_dec, br_dec, iadd_nat (show i < 4611686018427387904 by omega)]
      by_cases e : a[i] = b[i] <;> simp [e]) (fun n => by simp only [ref08_Same.l4_eq, ilt_nat, Nat.lt_irrefl, decide_false, br_false]) k (by omega)
  · have : a ≠ b := fun e => h (by rw [e])
    simp only [h, this, not_false_eq_true, decide_true, decide_false, br_true]
end Go.Proofs.YtoikjekpckhgeaaGreat
end
section
/- What is known: joined, the same, within. -/
namespace Go.Proofs.YtoikjekpckhgeaaGreat
open Pal
abbrev Know := DSet × (List Undo × DSet)
structure CanK (a : Know) : Prop where
  kn : Can a.1
  un : CanU a.2.1
  se : Can a.2.2
/-- No more than so many parts. -/
structure LenK (n : Nat) (a : Know) : Prop where
  kn : a.1.2.length ≤ n
  un : a.2.1.length ≤ n
  se : a.2.2.2.length ≤ n
def joinK (a b : Know) : Know := (unionD a.1 b.1, (joinU a.2.1 b.2.1, unionD a.2.2 b.2.2))
theorem joinK_can {a b : Know} (ha : CanK a) (hb : CanK b) : CanK (joinK a b) := ⟨(unionD_can ha.kn hb.kn).1, joinU_can ha.un hb.un, (unionD_can ha.se hb.se).1⟩
theorem joinK_len {a b : Know} {n m : Nat} (ha : CanK a) (hb : CanK b) (h1 : LenK n a) (h2 : LenK m b) : LenK (n + m) (joinK a b) :=
  ⟨Nat.le_trans (unionD_can ha.kn hb.kn).2.2 (Nat.add_le_add h1.kn h2.kn), Nat.le_trans (joinU_len ha.un hb.un) (Nat.add_le_add h1.un h2.un), Nat.le_trans (unionD_can ha.se hb.se).2.2 (Nat.add_le_add h1.se h2.se)⟩
theorem unionD_comm {s t : DSet} (hs : Can s) (ht : Can t) : unionD s t = unionD t s := by
  obtain ⟨p1, p2, _⟩ := unionD_can hs ht
  obtain ⟨q1, q2, _⟩ := unionD_can ht hs
  exact can_unique p1 q1 fun x => by rw [p2, q2]; exact Or.comm
theorem unionD_assoc {s t u : DSet} (hs : Can s) (ht : Can t) (hu : Can u) : unionD (unionD s t) u = unionD s (unionD t u) := by
  obtain ⟨p1, p2, _⟩ := unionD_can hs ht
  obtain ⟨m1, m2, _⟩ := unionD_can ht hu
  obtain ⟨r1, r2, _⟩ := unionD_can p1 hu
  obtain ⟨n1, n2, _⟩ := unionD_can hs m1
  exact can_unique r1 n1 fun x => by rw [r2, n2, p2, m2]; exact or_assoc
theorem unionD_self {s : DSet} (hs : Can s) : unionD s s = s := (union_eq hs hs).2 fun _ h => h
theorem joinU_self {a : List Undo} (ha : CanU a) : joinU a a = a := (joinU_eq ha ha).2 fun _ => Int.le_refl _
theorem joinK_comm {a b : Know} (ha : CanK a) (hb : CanK b) : joinK a b = joinK b a := by
  unfold joinK; rw [unionD_comm ha.kn hb.kn, joinU_comm ha.un hb.un, unionD_comm ha.se hb.se]
theorem joinK_assoc {a b c : Know} (ha : CanK a) (hb : CanK b) (hc : CanK c) : joinK (joinK a b) c = joinK a (joinK b c) := by
  unfold joinK; simp only; rw [unionD_assoc ha.kn hb.kn hc.kn, joinU_assoc ha.un hb.un hc.un, unionD_assoc ha.se hb.se hc.se]
theorem joinK_self {a : Know} (ha : CanK a) : joinK a a = a := by
  unfold joinK; rw [unionD_self ha.kn, joinU_self ha.un, unionD_self ha.se]
theorem joinK_left {a b : Know} (ha : CanK a) (hb : CanK b) : joinK a (joinK a b) = joinK a b := by rw [← joinK_assoc ha ha hb, joinK_self ha]
theorem joinK_right {a b : Know} (ha : CanK a) (hb : CanK b) : joinK b (joinK a b) = joinK a b := by rw [joinK_comm ha hb]; exact joinK_left hb ha
theorem know_eq (a b : Know) : a = b ↔ a.1 = b.1 ∧ a.2.1 = b.2.1 ∧ a.2.2 = b.2.2 := by
  obtain ⟨a1, a2, a3⟩ := a; obtain ⟨b1, b2, b3⟩ := b
  simp
/-! ### What the functions come to -/
theorem goodK_is (k : Nat) (a : Ty.D tKnow) (fa : Fits tKnow a) (hk : 5000 < k) (hk2 : k < 1000000) : ∃ b, ref24_Good.f k a = some b ∧ (b = true → CanK a ∧ LenK 100 a) := by
  have e : ∀ {α : Type} (xs : List α), ile (ilen xs) 100 = decide (xs.length ≤ 100) := fun xs => by unfold ile ilen; congr 1; exact propext ⟨fun h => by omega, fun h => by omega⟩
  rw [ref24_Good.f_eq, ref24_Short.f_eq, e, e, e]
  simp only [br_dec]
  by_cases h1 : List.length a.1.2 ≤ 100
  · rw [if_pos h1]
    by_cases h2 : List.length a.2.1 ≤ 100
    · rw [if_pos h2]
      by_cases h3 : List.length a.2.2.2 ≤ 100
      · rw [decide_eq_true h3, bnd_some]
        simp only [br_true]
        obtain ⟨b1, g1, i1⟩ := rr_is k a.1 fa.1.1.1 hk hk2
        obtain ⟨b2, g2, i2⟩ := rrightU_is k a.2.1 (Nat.lt_of_le_of_lt h2 (by omega)) hk2
        obtain ⟨b3, g3, i3⟩ := rr_is k a.2.2 fa.2.2.1.1 hk hk2
        rw [ref24_Right.f_eq, g1, g2, g3]
        simp only [bnd_some]
        cases b1 with
        | false => exact ⟨false, rfl, fun h => by cases h⟩
        | true =>
          cases b2 with
          | false => exact ⟨false, rfl, fun h => by cases h⟩
          | true => exact ⟨b3, rfl, fun h => ⟨⟨(i1.1 rfl).1, i2.1 rfl, (i3.1 h).1⟩, ⟨h1, h2, h3⟩⟩⟩
      · rw [decide_eq_false h3]; exact ⟨false, rfl, fun h => by cases h⟩
    · rw [if_neg h2]; exact ⟨false, rfl, fun h => by cases h⟩
  · rw [if_neg h1]; exact ⟨false, rfl, fun h => by cases h⟩
theorem djoin_is (k : Nat) (a b : Know) {n m : Nat} (ha : CanK a) (hb : CanK b) (h1 : LenK n a) (h2 : LenK m b) (hl : n + m < k) (h17 : 17 < k) (hk : k < 1000000) : delta_Join.f k a b = some (joinK a b) := by
  have := h1.kn; have := h1.un; have := h1.se; have := h2.kn; have := h2.un; have := h2.se
  rw [delta_Join.f_eq, union_is k _ _ ha.kn hb.kn (by omega) h17 hk, tjoin_is k _ _ (by omega) (by omega) hk, union_is k _ _ ha.se hb.se (by omega) h17 hk]
  rfl
theorem rdjoin_is (k : Nat) (a b : Know) {n m : Nat} (ha : CanK a) (hb : CanK b) (h1 : LenK n a) (h2 : LenK m b) (hl : n + m < k) (h17 : 17 < k) (hk : k < 1000000) : ref24_Join.f k a b = some (joinK a b) := by
  have := h1.kn; have := h1.un; have := h1.se; have := h2.kn; have := h2.un; have := h2.se
  rw [ref24_Join.f_eq, runion_is k _ _ ha.kn hb.kn (by omega) h17 hk, rjoinU_is k _ _ ha.un (by omega) hk, runion_is k _ _ ha.se hb.se (by omega) h17 hk, rjoin_eq ha.un hb.un]
  rfl
theorem rdsame_is (k : Nat) (a b : Know) {n : Nat} (h1 : LenK n a) (hl : n < k) (hk : k < 1000000) : ref24_Same.f k a b = some (decide (a = b)) := by
  have := h1.kn; have := h1.un; have := h1.se
  rw [ref24_Same.f_eq, rsame_is k _ _ (by omega) hk, rsameU_is k _ _ (by omega) hk, rsame_is k _ _ (by omega) hk]
  simp only [bnd_some, br_dec, know_eq a b]
  by_cases e1 : a.1 = b.1 <;> by_cases e2 : a.2.1 = b.2.1 <;> simp [e1, e2]
def leAt (a b : Know) (j : Nat) : Prop := ∀ h : j < a.2.1.length, (a.2.1[j]).2 ≤ getU b.2.1 (a.2.1[j]).1
theorem rdwithin_is (k : Nat) (a b : Know) {n m : Nat} (ha : CanK a) (hb : CanK b) (h1 : LenK n a) (h2 : LenK m b) (hl : n + m < k) (h17 : 17 < k) (hk : k < 1000000) : ref24_Within.f k a b = some (decide (joinK a b = b)) := by
  have := h1.kn; have := h1.un; have := h1.se; have := h2.kn; have := h2.un; have := h2.se
  rw [ref24_Within.f_eq]
  obtain ⟨c, hc, hci⟩ := loop_all a.2.1.length (fun n i => ref24_Within.l2 k n (i : Int) a b) (leAt a b) (fun n i hi => by
    simp only [ref24_Within.l2_eq, ilt_nat, inL_nat, natOf_nat, hi, decide_true, br_true, rd_at' (e := tUndo) hi, rget_is k b.2.1 _ (by omega) hk, bnd_some, iadd_nat (show i < 4611686018427387904 by omega)]
    rw [ilt_dec, br_dec]
    by_cases h : getU b.2.1 (a.2.1[i]).1 < (a.2.1[i]).2
    · exact .inr ⟨fun hh => by have := hh hi; omega, if_pos h⟩
    · exact .inl ⟨fun _ => by omega, if_neg h⟩) (some (decide (unionD a.1 b.1 = b.1) && decide (unionD a.2.2 b.2.2 = b.2.2))) (unionD a.1 b.1 = b.1 ∧ unionD a.2.2 b.2.2 = b.2.2) ⟨_, rfl, by simp⟩ (fun n => by
    simp only [ref24_Within.l2_eq, ilt_nat, Nat.lt_irrefl, decide_false, br_false, rwithin_is k _ _ ha.kn hb.kn (show b.1.2.length < k by omega) (show a.1.2.length < k by omega) hk h17, rwithin_is k _ _ ha.se hb.se (show b.2.2.2.length < k by omega) (show a.2.2.2.length < k by omega) hk h17, bnd_some, br_dec]
    by_cases e : unionD a.1 b.1 = b.1 <;> simp [e]) k 0 (by omega) (by omega)
  rw [show ref24_Within.l2 k k 0 a b = _ from hc]
  congr 1
  rw [Bool.eq_iff_iff, hci, decide_eq_true_iff, know_eq]
  have hu : joinU a.2.1 b.2.1 = b.2.1 ↔ ∀ j, 0 ≤ j → j < a.2.1.length → leAt a b j := by
    rw [joinU_eq ha.un hb.un, leU_iff ha.un hb.un]
    constructor
    · intro h j _ _ hj; exact h _ (List.getElem_mem hj)
    · intro h u hu
      obtain ⟨j, hj, rfl⟩ := List.mem_iff_getElem.1 hu
      exact h j (by omega) hj hj
  show _ ↔ unionD a.1 b.1 = b.1 ∧ joinU a.2.1 b.2.1 = b.2.1 ∧ unionD a.2.2 b.2.2 = b.2.2
  rw [hu]
  exact ⟨fun ⟨x, y, z⟩ => ⟨y, x, z⟩, fun ⟨y, x, z⟩ => ⟨x, y, z⟩⟩
theorem rrightK_is (k : Nat) {a : Know} {n : Nat} (ha : CanK a) (h1 : LenK n a) (hn : n ≤ 4096) (hk : 5000 < k) (hk2 : k < 1000000) : ref24_Right.f k a = some true := by
  have := h1.kn; have := h1.un; have := h1.se
  obtain ⟨b2, g2, i2⟩ := rrightU_is k a.2.1 (by omega) hk2
  have : b2 = true := i2.2 ha.un
  subst this
  rw [ref24_Right.f_eq, rr_true k ha.kn (by omega) hk hk2, g2, rr_true k ha.se (by omega) hk hk2]; rfl
end Go.Proofs.YtoikjekpckhgeaaGreat
end
section
/- That runs answer; binary search. -/
namespace Go.Proofs.YtoikjekpckhgeaaGreat.Pal
open Go
def Tot {α : Type} (x : Option α) : Prop := ∃ r, x = some r
theorem some_tot {α : Type} (a : α) : Tot (some a) := ⟨a, rfl⟩
theorem br_tot {α : Type} {b : Bool} {x y : Option α} (h1 : Tot x) (h2 : Tot y) : Tot (br b x y) := by cases b <;> assumption
theorem bnd_tot {α β : Type} {x : Option α} {f : α → Option β} (h1 : Tot x) (h2 : ∀ r, x = some r → Tot (f r)) : Tot (bnd x f) := by
  obtain ⟨r, rfl⟩ := h1
  exact h2 r rfl
theorem bnd_tot' {α β : Type} {x : Option α} {f : α → Option β} (h1 : Tot x) (h2 : ∀ r, Tot (f r)) : Tot (bnd x f) := bnd_tot h1 fun r _ => h2 r
theorem loop_tot {ρ : Type} (N : Nat) (L : Nat → Nat → Option ρ) (hs : ∀ n i, i < N → Tot (L n (i + 1)) → Tot (L (n + 1) i)) (he : ∀ n, Tot (L (n + 1) N)) : ∀ n i, i ≤ N → N < n + i → Tot (L n i)
  | 0, i, h, h' => by omega
  | n + 1, i, h, h' => by
    by_cases hi : i < N
    · exact hs n i hi (loop_tot N L hs he n (i + 1) (by omega) (by omega))
    · have : i = N := by omega
      subst this; exact he n
/-- Binary search. -/
theorem bs_gen {α ρ : Type} (l : List α) (lt : α → Bool) (hm : l.Pairwise (fun a b => lt b = true → lt a = true)) (L : Nat → Nat → Nat → Option ρ) (E : Nat → Option ρ)
    (hs : ∀ n i j, i < j → j ≤ l.length → ∀ h : (i + j) / 2 < l.length, L (n + 1) i j = if lt l[(i + j) / 2] = true then L n ((i + j) / 2 + 1) j else L n i ((i + j) / 2)) (he : ∀ n i, i ≤ l.length → L (n + 1) i i = E i) :
    ∀ n i j, i ≤ j → j ≤ l.length → j < n + i → (∀ t (h : t < l.length), t < i → lt l[t] = true) → (∀ t (h : t < l.length), j ≤ t → lt l[t] = false) →
      ∃ p, p ≤ l.length ∧ (∀ t (h : t < l.length), t < p → lt l[t] = true) ∧ (∀ t (h : t < l.length), p ≤ t → lt l[t] = false) ∧ L n i j = E p
  | 0, i, j, h, _, h', _, _ => by omega
  | n + 1, i, j, hij, hj, hn, h1, h2 => by
    have mono : ∀ s t (hs : s < l.length) (ht : t < l.length), s < t → lt l[t] = true → lt l[s] = true := fun s t hs ht hst => List.pairwise_iff_getElem.1 hm s t hs ht hst
    by_cases e : i = j
    · subst e
      exact ⟨i, hj, h1, h2, he n i hj⟩
    · have hlt : i < j := by omega
      have hm' : (i + j) / 2 < l.length := by omega
      have := hs n i j hlt hj hm'
      cases hc : lt l[(i + j) / 2] with
      | true =>
        rw [hc, if_pos rfl] at this
        rw [this]
        exact bs_gen l lt hm L E hs he n ((i + j) / 2 + 1) j (by omega) hj (by omega) (fun t ht htm => by
          rcases Nat.lt_or_ge t ((i + j) / 2) with h | h
          · exact mono t _ ht hm' h hc
          · have : t = (i + j) / 2 := by omega
            subst this; exact hc) h2
      | false =>
        rw [hc] at this
        simp only [Bool.false_eq_true, if_false] at this
        rw [this]
        exact bs_gen l lt hm L E hs he n i ((i + j) / 2) (by omega) (by omega) (by omega) h1 (fun t ht htm => by
          rcases Nat.lt_or_ge ((i + j) / 2) t with h | h
          · cases hh : lt l[t] with
            | false => rfl
            | true => have := mono _ t hm' ht h hh; rw [hc] at this; cases this
          · have : t = (i + j) / 2 := by omega
            subst this; exact hc)
end Go.Proofs.YtoikjekpckhgeaaGreat.Pal
end
section
/- The document's checks of names, paths, values, operations and transactions answer, of short ones. -/
namespace Go.Proofs.YtoikjekpckhgeaaGreat
open Pal
abbrev Str := List UInt8
abbrev Val := Int × (Int × Str)
abbrev Op := Int × (List Str × (Val × (Int × List (Dot × Int))))
abbrev Txn := Dot × (Int × (Int × (Bool × List Op)))
noncomputable instance decOp : DecidableEq Op := fun a b => Classical.propDecidable (a = b)
noncomputable instance decTxn : DecidableEq Txn := fun a b => Classical.propDecidable (a = b)
theorem ilt_lenR {α : Type} (c : Nat) (xs : List α) : ilt (c : Int) (ilen xs) = decide (c < xs.length) := by unfold ilt ilen; exact decide_eq_decide.2 ⟨fun h => by omega, fun h => by omega⟩
theorem ile_len {α : Type} (c : Nat) (xs : List α) : ile (ilen xs) (c : Int) = decide (xs.length ≤ c) := by unfold ile ilen; exact decide_eq_decide.2 ⟨fun h => by omega, fun h => by omega⟩
theorem rchar_is (k : Nat) (s : Str) (hk : 10 < k) (hs : s.length < 4000000) : ∃ (c n : Int), ref03_Char.f k s = some (c, n) ∧ 0 ≤ n ∧ n ≤ (s.length : Int) := by
  rw [ref03_Char.f_eq]
  have e0 : ieq (ilen s) 0 = decide (s.length = 0) := ieq0 s
  rw [e0]
  by_cases h0 : s.length = 0
  · rw [decide_eq_true h0]; exact ⟨0, 0, rfl, by decide, by omega⟩
  rw [decide_eq_false h0]
  have e1 : inL 0 s = true := by
    have := inL_nat 0 s
    rw [show inL 0 s = decide (0 < s.length) from this]; exact decide_eq_true (by omega)
  have l2 : ∀ c : Nat, ilt (ilen s) (c : Int) = decide (s.length < c) := fun c => by unfold ilt ilen; exact decide_eq_decide.2 ⟨fun h => by omega, fun h => by omega⟩
  -- the rest of a character
  have key : ∀ (N : Nat) (m x : Int), 1 ≤ N → N ≤ s.length → N ≤ 4 → ∃ (c n : Int), ref03_Char.l17 k k s x (N : Int) m 1 = some (c, n) ∧ 0 ≤ n ∧ n ≤ (s.length : Int) := by
    intro N m x hN1 hN hN4
    have : ∀ n i (x : Int), 1 ≤ i → N < n + i → i ≤ N → ∃ (c q : Int), ref03_Char.l17 k n s x (N : Int) m (i : Int) = some (c, q) ∧ 0 ≤ q ∧ q ≤ (s.length : Int) := by
      intro n
      induction n with
      | zero =>
        intro i x h1 h2 h3
        omega
      | succ n ih =>
        intro i x h1 h2 h3
        rw [ref03_Char.l17_eq, ilt_nn]
        by_cases hi : i < N
        · have e2 : inL (i : Int) s = true := by rw [inL_nat]; exact decide_eq_true (by omega)
          have e3 : iadd .i64 (i : Int) 1 = ((i + 1 : Nat) : Int) := iadd_nat (by omega)
          rw [decide_eq_true hi, e2, e3]
          simp only [br_true]
          have z : ∃ (c q : Int), (some ((0 : Int), (0 : Int))) = some (c, q) ∧ 0 ≤ q ∧ q ≤ (s.length : Int) := ⟨0, 0, rfl, by decide, by omega⟩
          have y := ih (i + 1) (isub .i64 (iadd .i64 (imul .i64 64 x) (iwrap .i64 (byteAt s (i : Int)))) 128) (by omega) (by omega) (by omega)
          cases ilt (byteAt s (i : Int)) 128 with
          | true => exact z
          | false =>
            cases ilt 191 (byteAt s (i : Int)) with
            | true => exact z
            | false => exact y
        · rw [decide_eq_false hi]
          simp only [br_false]
          have z : ∃ (c q : Int), (some ((0 : Int), (0 : Int))) = some (c, q) ∧ 0 ≤ q ∧ q ≤ (s.length : Int) := ⟨0, 0, rfl, by decide, by omega⟩
          have y : ∃ (c q : Int), (some (x, (N : Int))) = some (c, q) ∧ 0 ≤ q ∧ q ≤ (s.length : Int) := ⟨x, N, rfl, by omega, by omega⟩
          cases ilt x m with
          | true => exact z
          | false =>
            cases ilt 1114111 x with
            | true => exact z
            | false =>
              cases ile 55296 x with
              | false => exact y
              | true => cases ile x 57343 with
                | true => exact z
                | false => exact y
    exact this k 1 x (by omega) (by omega) (by omega)
  have z : ∃ (c q : Int), (some ((0 : Int), (0 : Int))) = some (c, q) ∧ 0 ≤ q ∧ q ≤ (s.length : Int) := ⟨0, 0, rfl, by decide, by omega⟩
  have kk : ∀ (N : Nat) (m x : Int), 1 ≤ N → N ≤ 4 → ∃ (c n : Int), br (ilt (ilen s) (N : Int)) (some ((0 : Int), (0 : Int))) (ref03_Char.l17 k k s x (N : Int) m 1) = some (c, n) ∧ 0 ≤ n ∧ n ≤ (s.length : Int) := by
    intro N m x hN1 hN
    rw [l2]
    by_cases h : s.length < N
    · rw [decide_eq_true h]; exact z
    · rw [decide_eq_false h]; exact key N m x hN1 (by omega) hN
  have k2 := fun m x => kk 2 m x (by decide) (by decide)
  have k3 := fun m x => kk 3 m x (by decide) (by decide)
  have k4 := fun m x => kk 4 m x (by decide) (by decide)
  rw [e1]
  simp only [br_true, br_false]
  generalize iwrap .i64 (byteAt s 0) = b
  cases ilt b 128 with
  | true => exact ⟨b, 1, rfl, by decide, by omega⟩
  | false =>
    cases ile 194 b <;> cases ilt b 224 <;> cases ile 224 b <;> cases ilt b 240 <;> cases ile 240 b <;> cases ilt b 245 <;> simp only [br_true, br_false] <;> first | exact z | exact k2 _ _ | exact k3 _ _ | exact k4 _ _
theorem rrunes_is (k : Nat) (s : Str) (hk : 10 < k) (hs : s.length < k) (hk2 : k < 1000000) : ∃ (l : List Int) (b : Bool), ref03_Runes.f k s = some (l, b) ∧ l.length ≤ s.length := by
  rw [ref03_Runes.f_eq]
  have : ∀ n i (l : List Int), i ≤ s.length → s.length < n + i → l.length ≤ i → ∃ (l' : List Int) (b : Bool), ref03_Runes.l3 k n s l (i : Int) = some (l', b) ∧ l'.length ≤ s.length := by
    intro n
    induction n with
    | zero => intro i l h1 h2; omega
    | succ n ih =>
      intro i l h1 h2 hl
      rw [ref03_Runes.l3_eq, ilt_nat]
      by_cases hi : i < s.length
      · have hin : inS (i : Int) (ilen s) (ilen s) = true := by
          have h1 : (i : Int) ≤ (s.length : Int) := by omega
          show (decide ((0 : Int) ≤ (i : Int)) && decide ((i : Int) ≤ (s.length : Int)) && decide ((s.length : Int) ≤ (s.length : Int))) = true
          rw [decide_eq_true h1, decide_eq_true (show (0 : Int) ≤ (i : Int) by omega), decide_eq_true (Int.le_refl _)]; rfl
        have hp : (piece s (i : Int) (ilen s)).length = s.length - i := by
          unfold piece ilen
          rw [Int.toNat_natCast, Int.toNat_natCast, List.take_length, List.length_drop]
        obtain ⟨c, q, hc, q0, q1⟩ := rchar_is k (piece s (i : Int) (ilen s)) hk (by omega)
        rw [decide_eq_true hi, hin, hc]
        simp only [br_true, bnd_some, ieq_dec]
        rw [hp] at q1
        by_cases hq : q = 0
        · rw [decide_eq_true hq]; exact ⟨[], false, rfl, by simp⟩
        · rw [decide_eq_false hq]
          simp only [br_false]
          have hr : room l (c :: []) = true := room_le (by simp only [List.length_cons, List.length_nil]; omega)
          obtain ⟨Q, rfl⟩ : ∃ Q : Nat, q = (Q : Int) := ⟨q.toNat, by omega⟩
          have e3 : iadd .i64 (i : Int) (Q : Int) = ((i + Q : Nat) : Int) := by rw [iadd_s (by omega) (by omega) (by omega) (by omega)]; omega
          rw [hr, e3]
          simp only [br_true]
          exact ih (i + Q) _ (by omega) (by omega) (by simp only [app, List.length_append, List.length_cons, List.length_nil]; omega)
      · rw [decide_eq_false hi]
        exact ⟨l, true, rfl, by omega⟩
  exact this k 0 [] (by omega) (by omega) (by simp)
theorem rmay_tot (k : Nat) (c : Int) : Tot (ref03_may.f k c) := by
  rw [ref03_may.f_eq]
  repeat' first | exact some_tot _ | apply br_tot
theorem rname_tot (k : Nat) (s : Str) (hk : 10 < k) (hs : s.length < k) (hk2 : k < 1000000) : Tot (ref03_Right.f k s) := by
  obtain ⟨l, b, h, hl⟩ := rrunes_is k s hk hs hk2
  rw [ref03_Right.f_eq, h]
  simp only [bnd_some]
  refine loop_tot l.length (fun n i => ref03_Right.l3 k n l b (i : Int)) (fun n i hi ih => ?_) (fun n => ?_) k 0 (by omega) (by omega)
  · have e3 : iadd .i64 (i : Int) 1 = ((i + 1 : Nat) : Int) := iadd_nat (by omega)
    simp only [ref03_Right.l3_eq, ilt_nat, inL_nat, hi, decide_true, br_true, e3]
    exact bnd_tot' (rmay_tot k _) fun r => br_tot (some_tot _) ih
  · simp only [ref03_Right.l3_eq, ilt_nat, Nat.lt_irrefl, decide_false, br_false]
    repeat' first | exact some_tot _ | apply br_tot
def ShortP (p : List Str) : Prop := p.length ≤ 12 ∧ ∀ s ∈ p, List.length s ≤ 120
theorem rpath_tot (k : Nat) (p : List Str) (hp : ShortP p) (hk : 1000 < k) (hk2 : k < 1000000) : Tot (ref10_Check.f k p) := by
  rw [ref10_Check.f_eq]
  refine br_tot (some_tot _) (br_tot (some_tot _) ?_)
  have := hp.1
  refine loop_tot p.length (fun n i => ref10_Check.l6 k n p (i : Int)) (fun n i hi ih => ?_) (fun n => ?_) k 0 (by omega) (by omega)
  · have e3 : iadd .i64 (i : Int) 1 = ((i + 1 : Nat) : Int) := iadd_nat (by omega)
    simp only [ref10_Check.l6_eq, ilt_nat, inL_nat, natOf_nat, hi, decide_true, br_true, e3, rd_at' (e := .str) hi]
    have := hp.2 p[i] (List.getElem_mem hi)
    exact bnd_tot' (rname_tot k _ (by omega) (by omega) hk2) fun r => br_tot (some_tot _) ih
  · simp only [ref10_Check.l6_eq, ilt_nat, Nat.lt_irrefl, decide_false, br_false]
    exact some_tot _
theorem rval_tot (k : Nat) (v : Val) (hv : v.2.2.length ≤ 200) (hk : 1000 < k) (hk2 : k < 1000000) : Tot (ref09_Right.f k v) := by
  rw [ref09_Right.f_eq]
  obtain ⟨l, b, h, hl⟩ := rrunes_is k v.2.2 (by omega) (by omega) hk2
  rw [h]
  simp only [bnd_some]
  repeat' first | exact some_tot _ | apply br_tot
theorem rrefs_tot (k : Nat) (l : List (Dot × Int)) (hl : l.length ≤ 300) (hk : 1000 < k) (hk2 : k < 1000000) : Tot (ref11_Refs.f k l) := by
  rw [ref11_Refs.f_eq]
  refine loop_tot l.length (fun n i => ref11_Refs.l2 k n l (i : Int)) (fun n i hi ih => ?_) (fun n => ?_) k 0 (by omega) (by omega)
  · have e3 : iadd .i64 (i : Int) 1 = ((i + 1 : Nat) : Int) := iadd_nat (by omega)
    have e4 : ilt 0 (i : Int) = decide (0 < i) := ilt_nn 0 i
    simp only [ref11_Refs.l2_eq, ilt_nat, inL_nat, hi, decide_true, br_true, e3, rright_is, bnd_some, e4]
    refine br_tot (some_tot _) (br_tot (some_tot _) (br_tot (some_tot _) ?_))
    by_cases h0 : 0 < i
    · have hi1 : i - 1 < l.length := by omega
      have e5 : isub .i64 (i : Int) 1 = ((i - 1 : Nat) : Int) := by rw [isub_s (by omega) (by omega) (by omega) (by omega)]; omega
      simp only [h0, decide_true, br_true, e5, inL_nat, hi1, ref04_Refs.f_eq, rcmp_is, bnd_some]
      refine bnd_tot' (br_tot (some_tot _) (bnd_tot' ?_ fun r => some_tot _)) fun r => br_tot (some_tot _) ih
      rw [ref04_ints.f_eq]
      repeat' first | exact some_tot _ | apply br_tot
    · simp only [h0, decide_false, br_false]; exact ih
  · simp only [ref11_Refs.l2_eq, ilt_nat, Nat.lt_irrefl, decide_false, br_false]
    exact some_tot _
structure ShortO (o : Op) : Prop where
  path : ShortP o.2.1
  val : o.2.2.1.2.2.length ≤ 200
  seen : o.2.2.2.2.length ≤ 300
theorem rgone_tot (k : Nat) (o : Op) : Tot (ref11_Gone.f k o) := by
  rw [ref11_Gone.f_eq]
  repeat' first | exact some_tot _ | apply br_tot
theorem rop_tot (k : Nat) (o : Op) (ho : ShortO o) (hk : 1000 < k) (hk2 : k < 1000000) : Tot (ref11_Check.f k o) := by
  rw [ref11_Check.f_eq]
  obtain ⟨r1, h1⟩ := rpath_tot k _ ho.path hk hk2
  obtain ⟨r2, h2⟩ := rval_tot k _ ho.val hk hk2
  obtain ⟨r3, h3⟩ := rrefs_tot k _ ho.seen hk hk2
  rw [h1, h2, h3]
  simp only [bnd_some]
  repeat' first | exact some_tot _ | apply br_tot
structure ShortT (t : Txn) : Prop where
  len : t.2.2.2.2.length ≤ 20
  ops : ∀ o ∈ t.2.2.2.2, ShortO o
theorem rpathshort_is (k : Nat) (p : List Str) (hk : 1000 < k) (hk2 : k < 1000000) : ∃ b, ref10_Short.f k p = some b ∧ (b = true → ShortP p) := by
  rw [ref10_Short.f_eq, show ilt 12 (ilen p) = decide (12 < p.length) from ilt_lenR 12 p]
  by_cases h : 12 < p.length
  · rw [decide_eq_true h]; exact ⟨false, rfl, fun h => by cases h⟩
  · rw [decide_eq_false h]
    simp only [br_false]
    obtain ⟨b, hb, hbi⟩ := loop_all' p.length (fun n i => ref10_Short.l4 k n p (i : Int)) (fun j => ∀ s, p[j]? = some s → List.length s ≤ 120) (fun n i hi => by
      have e3 : iadd .i64 (i : Int) 1 = ((i + 1 : Nat) : Int) := iadd_nat (by omega)
      have e4 : ilt 120 (ilen p[i]) = decide (120 < List.length p[i]) := ilt_lenR 120 p[i]
      simp only [ref10_Short.l4_eq, ilt_nat, inL_nat, natOf_nat, hi, decide_true, br_true, e3, rd_at' (e := .str) hi, e4, br_dec, List.getElem?_eq_getElem hi]
      by_cases hl : 120 < List.length p[i]
      · exact .inr ⟨fun hh => by have := hh _ rfl; omega, if_pos hl⟩
      · exact .inl ⟨fun s hs => by injection hs with hs; subst hs; omega, if_neg hl⟩) (fun n => by simp only [ref10_Short.l4_eq, ilt_nat, Nat.lt_irrefl, decide_false, br_false]) k 0 (by omega) (by omega)
    refine ⟨b, hb, fun hh => ⟨by omega, fun s hs => ?_⟩⟩
    obtain ⟨j, hj, rfl⟩ := List.mem_iff_getElem.1 hs
    exact hbi.1 hh j (by omega) hj _ (List.getElem?_eq_getElem hj)
theorem ropshort_is (k : Nat) (o : Op) (hk : 1000 < k) (hk2 : k < 1000000) : ∃ b, ref11_Short.f k o = some b ∧ (b = true → ShortO o) := by
  obtain ⟨b, hb, hbi⟩ := rpathshort_is k o.2.1 hk hk2
  rw [ref11_Short.f_eq, hb]
  simp only [bnd_some]
  rw [show ile (ilen o.2.2.1.2.2) 200 = decide (o.2.2.1.2.2.length ≤ 200) from ile_len 200 _, show ile (ilen o.2.2.2.2) 300 = decide (o.2.2.2.2.length ≤ 300) from ile_len 300 _]
  cases b with
  | false => exact ⟨false, rfl, fun h => by cases h⟩
  | true =>
    simp only [br_true, br_dec]
    by_cases h : o.2.2.1.2.2.length ≤ 200
    · rw [if_pos h]; exact ⟨_, rfl, fun hh => ⟨hbi rfl, h, of_decide_eq_true hh⟩⟩
    · rw [if_neg h]; exact ⟨false, rfl, fun h => by cases h⟩
def shortAt (k : Nat) (t : Txn) (j : Nat) : Prop := ∀ o, t.2.2.2.2[j]? = some o → ∃ b, ref11_Short.f k o = some b ∧ b = true
theorem rtxnshort_is (k : Nat) (t : Txn) (hk : 1000 < k) (hk2 : k < 1000000) : ∃ b, ref12_Short.f k t = some b ∧ (b = true → ShortT t) := by
  rw [ref12_Short.f_eq, show ilt 20 (ilen t.2.2.2.2) = decide (20 < t.2.2.2.2.length) from ilt_lenR 20 _]
  by_cases h : 20 < t.2.2.2.2.length
  · rw [decide_eq_true h]; exact ⟨false, rfl, fun h => by cases h⟩
  · rw [decide_eq_false h]
    simp only [br_false]
    obtain ⟨b, hb, hbi⟩ := loop_all' t.2.2.2.2.length (fun n i => br (decide True) (ref12_Short.l4 k n (i : Int) t) none) (shortAt k t) (fun n i hi => by
      have e3 : iadd .i64 (i : Int) 1 = ((i + 1 : Nat) : Int) := iadd_nat (by omega)
      obtain ⟨b, hb, _⟩ := ropshort_is k t.2.2.2.2[i] hk hk2
      simp only [decide_true, br_true, ref12_Short.l4_eq, ilt_nat, inL_nat, natOf_nat, hi, e3, rd_at' (e := tOp) hi, hb, bnd_some]
      cases b with
      | false => exact .inr ⟨fun hh => (by obtain ⟨c, h1, h2⟩ := hh _ (List.getElem?_eq_getElem hi); rw [hb] at h1; injection h1 with h1; subst h1; cases h2), rfl⟩
      | true => exact .inl ⟨fun s hs => (by rw [List.getElem?_eq_getElem hi] at hs; injection hs with hs; subst hs; exact ⟨true, hb, rfl⟩), rfl⟩) (fun n => by simp only [decide_true, br_true, ref12_Short.l4_eq, ilt_nat, Nat.lt_irrefl, decide_false, br_false]) k 0 (by omega) (by omega)
    refine ⟨b, hb, fun hh => ⟨by omega, fun o ho => ?_⟩⟩
    obtain ⟨j, hj, rfl⟩ := List.mem_iff_getElem.1 ho
    obtain ⟨c, h1, h2⟩ := hbi.1 hh j (by omega) hj _ (List.getElem?_eq_getElem hj)
    obtain ⟨d, h3, h4⟩ := ropshort_is k _ hk hk2
    rw [h3] at h1; injection h1 with h1; subst h1
    exact h4 h2
/-- What is wrong with a transaction; a right one's dot is right. -/
theorem rtxn_is (k : Nat) (t : Txn) (ht : ShortT t) (hk : 1000 < k) (hk2 : k < 1000000) : ∃ e : Int, ref12_Check.f k t = some e ∧ (e = 0 → rightD t.1 = true) := by
  rw [ref12_Check.f_eq, rright_is]
  simp only [bnd_some]
  cases hd : rightD t.1 with
  | false => exact ⟨2, rfl, fun h => by cases h⟩
  | true =>
    have : Tot (ref12_Check.l8 k k 0 t) := by
      have := ht.len
      refine loop_tot t.2.2.2.2.length (fun n i => ref12_Check.l8 k n (i : Int) t) (fun n i hi ih => ?_) (fun n => ?_) k 0 (by omega) (by omega)
      · have e3 : iadd .i64 (i : Int) 1 = ((i + 1 : Nat) : Int) := iadd_nat (by omega)
        obtain ⟨e, he⟩ := rop_tot k t.2.2.2.2[i] (ht.ops _ (List.getElem_mem hi)) hk hk2
        obtain ⟨g, hg⟩ := rgone_tot k t.2.2.2.2[i]
        simp only [ref12_Check.l8_eq, ilt_nat, inL_nat, natOf_nat, hi, decide_true, br_true, e3, rd_at' (e := tOp) hi, he, hg, bnd_some]
        exact br_tot (br_tot (br_tot (some_tot _) ih) (br_tot (some_tot _) ih)) ih
      · simp only [ref12_Check.l8_eq, ilt_nat, Nat.lt_irrefl, decide_false, br_false]
        exact some_tot _
    have bt : bnot true = false := rfl
    rw [bt]
    simp only [br_false]
    have all : Tot (br (ilt t.2.1 0) (some (2 : Int)) (br (ilt 7 t.2.1) (some 2) (br (ilt t.2.2.1 1) (some 2) (br (ilt 1099511627776 t.2.2.1) (some 2) (br (ieq (ilen t.2.2.2.2) 0) (some 11) (br (ilt 16 (ilen t.2.2.2.2)) (some 7) (ref12_Check.l8 k k 0 t))))))) := by
      repeat' first | exact some_tot _ | exact this | apply br_tot
    obtain ⟨e, he⟩ := all
    exact ⟨e, he, fun _ => trivial⟩
end Go.Proofs.YtoikjekpckhgeaaGreat
end
section
/- Transactions in order, and states: plain facts. -/
namespace Go.Proofs.YtoikjekpckhgeaaGreat
open Pal
abbrev Sta := List Txn × (List (Dot × Int) × (DSet × (DSet × List (List Dot))))
abbrev Dlt := List Txn × (List (Dot × Int) × List Dot)
def findT : List Txn → Dot → Option Txn
  | [], _ => none
  | t :: r, d => if t.1 = d then some t else findT r d
structure CanT (l : List Txn) : Prop where
  rt : ∀ t ∈ l, rightD t.1 = true
  srt : l.Pairwise (fun a b => dotLt a.1 b.1 = true)
theorem CanT.nil : CanT [] := ⟨fun u hu => by simp at hu, List.Pairwise.nil⟩
theorem CanT.tail {u : Txn} {l : List Txn} (h : CanT (u :: l)) : CanT l := ⟨fun v hv => h.rt v (List.mem_cons_of_mem _ hv), (List.pairwise_cons.1 h.srt).2⟩
theorem CanT.head {u : Txn} {l : List Txn} (h : CanT (u :: l)) : ∀ v ∈ l, dotLt u.1 v.1 = true := (List.pairwise_cons.1 h.srt).1
theorem CanT.cons {u : Txn} {l : List Txn} (h : CanT l) (h1 : rightD u.1 = true) (h2 : ∀ v ∈ l, dotLt u.1 v.1 = true) : CanT (u :: l) :=
  ⟨fun v hv => by rcases List.mem_cons.1 hv with rfl | hv; exact h1; exact h.rt v hv, List.pairwise_cons.2 ⟨h2, h.srt⟩⟩
theorem findT_none {l : List Txn} {d : Dot} : findT l d = none ↔ ∀ t ∈ l, t.1 ≠ d := by
  induction l with
  | nil => simp [findT]
  | cons u l ih =>
    rw [findT]
    by_cases e : u.1 = d
    · rw [if_pos e]; simp [e]
    · rw [if_neg e, ih]; simp [e]
theorem findT_some {l : List Txn} {d : Dot} {t : Txn} (h : findT l d = some t) : t ∈ l ∧ t.1 = d := by
  induction l with
  | nil => cases h
  | cons u l ih =>
    rw [findT] at h
    by_cases e : u.1 = d
    · rw [if_pos e] at h; injection h with h; subst h; exact ⟨by simp, e⟩
    · rw [if_neg e] at h; exact ⟨List.mem_cons_of_mem _ (ih h).1, (ih h).2⟩
theorem findT_mem {l : List Txn} {t : Txn} (h : CanT l) (ht : t ∈ l) : findT l t.1 = some t := by
  induction l with
  | nil => cases ht
  | cons v l ih =>
    rw [findT]
    rcases List.mem_cons.1 ht with e | ht
    · subst e; rw [if_pos rfl]
    · rw [if_neg (dotLt_ne (h.head t ht))]; exact ih h.tail ht
theorem findT_is {l : List Txn} {d : Dot} : (findT l d).isSome = true ↔ ∃ t ∈ l, t.1 = d := by
  cases h : findT l d with
  | none => exact ⟨fun h => (by cases h), fun ⟨t, ht, hd⟩ => absurd hd (findT_none.1 h t ht)⟩
  | some t => exact ⟨fun _ => ⟨t, (findT_some h).1, (findT_some h).2⟩, fun _ => rfl⟩
theorem canT_unique : ∀ (l m : List Txn), CanT l → CanT m → (∀ d, findT l d = findT m d) → l = m
  | [], [], _, _, _ => rfl
  | [], t :: m, _, hm, h => by have := h t.1; rw [findT_mem hm (by simp)] at this; cases this
  | t :: l, [], hl, _, h => by have := h t.1; rw [findT_mem hl (by simp)] at this; cases this
  | x :: a, y :: b, hl, hm, h => by
    have h1 : findT (y :: b) x.1 = some x := by rw [← h]; exact findT_mem hl (by simp)
    have h2 : findT (x :: a) y.1 = some y := by rw [h]; exact findT_mem hm (by simp)
    have e : x = y := by
      rcases List.mem_cons.1 (findT_some h1).1 with e | hx
      · exact e
      · rcases List.mem_cons.1 (findT_some h2).1 with e | hy
        · exact e.symm
        · have := dotLt_asym (hm.head x hx); rw [hl.head y hy] at this; cases this
    subst e
    congr 1
    refine canT_unique a b hl.tail hm.tail fun d => ?_
    by_cases e : x.1 = d
    · subst e
      rw [findT_none.2 fun t ht e => dotLt_ne (hl.head t ht) e.symm, findT_none.2 fun t ht e => dotLt_ne (hm.head t ht) e.symm]
    · have := h d
      rw [findT, findT, if_neg e, if_neg e] at this
      exact this
/-- One more, in its place. -/
def insT (t : Txn) : List Txn → List Txn
  | [] => [t]
  | x :: r => if dotLt x.1 t.1 then x :: insT t r else t :: x :: r
theorem insT_all {t : Txn} (ht : rightD t.1 = true) : ∀ (l : List Txn), CanT l → (∀ x ∈ l, x.1 ≠ t.1) → CanT (insT t l) ∧ (∀ d, findT (insT t l) d = if d = t.1 then some t else findT l d) ∧ (∀ e : Dot, dotLt e t.1 = true → (∀ v ∈ l, dotLt e v.1 = true) → ∀ v ∈ insT t l, dotLt e v.1 = true) ∧ (insT t l).length = l.length + 1
  | [], _, _ => by
    refine ⟨CanT.nil.cons ht fun v hv => by simp at hv, fun d => ?_, fun e h _ v hv => ?_, rfl⟩
    · show (if t.1 = d then some t else none) = if d = t.1 then some t else none
      by_cases e : t.1 = d
      · rw [if_pos e, if_pos e.symm]
      · rw [if_neg e, if_neg (fun h => e h.symm)]
    · simp [insT] at hv; subst hv; exact h
  | x :: r, h, hn => by
    rw [insT]
    by_cases hc : dotLt x.1 t.1 = true
    · rw [if_pos hc]
      obtain ⟨c1, c2, c3, c4⟩ := insT_all ht r h.tail (fun y hy => hn y (List.mem_cons_of_mem _ hy))
      refine ⟨c1.cons (h.rt x (by simp)) (c3 x.1 hc h.head), fun d => ?_, fun e h1 h2 v hv => ?_, by simp [c4]⟩
      · rw [findT, findT, c2]
        by_cases e : x.1 = d
        · rw [if_pos e, if_pos e, if_neg (fun e2 => hn x (by simp) (e.trans e2))]
        · rw [if_neg e, if_neg e]
      · rcases List.mem_cons.1 hv with rfl | hv
        · exact h2 _ (by simp)
        · exact c3 e h1 (fun v hv => h2 v (List.mem_cons_of_mem _ hv)) v hv
    · rw [if_neg hc]
      have hx : dotLt t.1 x.1 = true := by
        cases hl : dotLt t.1 x.1 with
        | true => rfl
        | false => exact absurd (dotLt_tot _ _ (by simpa using hc) hl) (hn x (by simp))
      refine ⟨h.cons ht fun v hv => ?_, fun d => ?_, fun e h1 h2 v hv => ?_, rfl⟩
      · rcases List.mem_cons.1 hv with rfl | hv
        · exact hx
        · exact dotLt_trans hx (h.head v hv)
      · rw [findT]
        by_cases e : t.1 = d
        · rw [if_pos e, if_pos e.symm]
        · rw [if_neg e, if_neg (fun h => e h.symm)]
      · rcases List.mem_cons.1 hv with rfl | hv
        · exact h1
        · exact h2 v hv
/-- What a search finds: laid in there, it is in its place. -/
theorem insAt_insT {l : List Txn} {t : Txn} {p : Nat} (hl : CanT l) (ht : rightD t.1 = true) (hn : ∀ x ∈ l, x.1 ≠ t.1) (hp : p ≤ l.length) (h1 : ∀ i (h : i < l.length), i < p → dotLt l[i].1 t.1 = true) (h2 : ∀ i (h : i < l.length), p ≤ i → dotLt l[i].1 t.1 = false) : insAt l (p : Int) (t :: []) = insT t l := by
  show l.take p ++ (t :: l.drop p) = insT t l
  have key : ∀ (l : List Txn) (p : Nat), p ≤ l.length → (∀ i (h : i < l.length), i < p → dotLt l[i].1 t.1 = true) → (∀ i (h : i < l.length), p ≤ i → dotLt l[i].1 t.1 = false) → l.take p ++ (t :: l.drop p) = insT t l := by
    intro l
    induction l with
    | nil => intro p hp _ _; simp [insT]
    | cons x r ih =>
      intro p hp h1 h2
      cases p with
      | zero =>
        have := h2 0 (by simp) (Nat.le_refl _)
        simp only [List.getElem_cons_zero] at this
        simp [insT, this]
      | succ p =>
        have := h1 0 (by simp) (by omega)
        simp only [List.getElem_cons_zero] at this
        have ih' := ih p (by simpa using hp) (fun i hi hip => by have := h1 (i + 1) (by simpa using hi) (by omega); simpa using this) (fun i hi hip => by have := h2 (i + 1) (by simpa using hi) (by omega); simpa using this)
        simp only [List.take_succ_cons, List.drop_succ_cons, List.cons_append, insT, this, if_true]
        rw [ih']
  exact key l p hp h1 h2
/-! ### States -/
structure CanS (s : Sta) : Prop where
  tx : CanT s.1
  un : CanU s.2.1
  kn : Can s.2.2.1
  se : Can s.2.2.2.1
  know : ∀ x, Mem s.2.2.1 x ↔ ∃ t ∈ s.1, t.1 = x
structure LenS (n : Nat) (s : Sta) : Prop where
  tx : s.1.length ≤ n
  un : s.2.1.length ≤ n
  kn : s.2.2.1.2.length ≤ n
  se : s.2.2.2.1.2.length ≤ n
  re : ∀ l ∈ s.2.2.2.2, l.length ≤ n
theorem LenS.mono {n m : Nat} {s : Sta} (h : LenS n s) (hnm : n ≤ m) : LenS m s :=
  ⟨Nat.le_trans h.tx hnm, Nat.le_trans h.un hnm, Nat.le_trans h.kn hnm, Nat.le_trans h.se hnm, fun l hl => Nat.le_trans (h.re l hl) hnm⟩
def putS (s : Sta) (t : Txn) : Sta := if (findT s.1 t.1).isSome then s else (insT t s.1, (s.2.1, (putD s.2.2.1 t.1, s.2.2.2)))
theorem putS_all {s : Sta} {t : Txn} (hs : CanS s) (ht : rightD t.1 = true) : CanS (putS s t) ∧ (∀ d, findT (putS s t).1 d = (findT s.1 d).or (if d = t.1 then some t else none)) ∧ (putS s t).2.1 = s.2.1 ∧ (putS s t).2.2.2 = s.2.2.2 ∧ (putS s t).1.length ≤ s.1.length + 1 ∧ (putS s t).2.2.1.2.length ≤ s.2.2.1.2.length + 1 := by
  unfold putS
  by_cases hf : (findT s.1 t.1).isSome = true
  · rw [if_pos hf]
    refine ⟨hs, fun d => ?_, rfl, rfl, by omega, by omega⟩
    by_cases e : d = t.1
    · rw [if_pos e]; subst e
      cases h : findT s.1 t.1 with
      | none => rw [h] at hf; cases hf
      | some x => rfl
    · rw [if_neg e]; cases findT s.1 d <;> rfl
  · rw [if_neg hf]
    have hn : findT s.1 t.1 = none := by cases h : findT s.1 t.1 with
      | none => rfl
      | some x => rw [h] at hf; exact absurd rfl hf
    obtain ⟨c1, c2, _, c4⟩ := insT_all ht s.1 hs.tx (findT_none.1 hn)
    obtain ⟨d1, d2, d3⟩ := putD_can hs.kn t.1
    refine ⟨⟨c1, hs.un, d1, hs.se, fun x => ?_⟩, fun d => ?_, rfl, rfl, by show (insT t s.1).length ≤ _; omega, d3⟩
    · show Mem (putD s.2.2.1 t.1) x ↔ ∃ y ∈ insT t s.1, y.1 = x
      rw [d2, hs.know, ← findT_is, ← findT_is, c2]
      by_cases e : x = t.1
      · rw [if_pos e]; simp [e, ht]
      · rw [if_neg e]; simp [e]
    · show findT (insT t s.1) d = _
      rw [c2]
      by_cases e : d = t.1
      · rw [if_pos e, if_pos e, e, hn]; rfl
      · rw [if_neg e, if_neg e]; cases findT s.1 d <;> rfl
theorem puts_all : ∀ (m : List Txn) (s : Sta), CanS s → (∀ t ∈ m, rightD t.1 = true) → CanS (m.foldl putS s) ∧ (∀ d, findT (m.foldl putS s).1 d = (findT s.1 d).or (findT m d)) ∧ (m.foldl putS s).2.1 = s.2.1 ∧ (m.foldl putS s).2.2.2 = s.2.2.2 ∧ (m.foldl putS s).1.length ≤ s.1.length + m.length ∧ (m.foldl putS s).2.2.1.2.length ≤ s.2.2.1.2.length + m.length
  | [], s, hs, _ => ⟨hs, fun d => by show findT s.1 d = (findT s.1 d).or none; cases findT s.1 d <;> rfl, rfl, rfl, by simp, by simp⟩
  | t :: m, s, hs, hr => by
    obtain ⟨a1, a2, a3, a4, a5, a6⟩ := putS_all hs (hr t (by simp))
    obtain ⟨b1, b2, b3, b4, b5, b6⟩ := puts_all m (putS s t) a1 (fun x hx => hr x (List.mem_cons_of_mem _ hx))
    simp only [List.foldl_cons, List.length_cons]
    refine ⟨b1, fun d => ?_, b3.trans a3, b4.trans a4, by omega, by omega⟩
    rw [b2, a2, findT]
    by_cases e : t.1 = d
    · rw [if_pos e, if_pos e.symm]; cases findT s.1 d <;> rfl
    · rw [if_neg e, if_neg (fun h => e h.symm)]; cases findT s.1 d <;> rfl
/-- Two states of the same transactions, counts, seals and rows are the same. -/
theorem sta_eq {s u : Sta} (hs : CanS s) (hu : CanS u) (h1 : ∀ d, findT s.1 d = findT u.1 d) (h2 : s.2.1 = u.2.1) (h3 : s.2.2.2 = u.2.2.2) : s = u := by
  have e1 := canT_unique _ _ hs.tx hu.tx h1
  have e2 : s.2.2.1 = u.2.2.1 := can_unique hs.kn hu.kn fun x => by rw [hs.know, hu.know, e1]
  obtain ⟨a, b, c, d⟩ := s
  obtain ⟨a', b', c', d'⟩ := u
  simp only at e1 h2 e2 h3
  rw [e1, h2, e2, h3]
structure CanDl (d : Dlt) : Prop where
  tx : CanT d.1
  un : CanU d.2.1
  se : ∀ x ∈ d.2.2, rightD x = true
structure LenD (n : Nat) (d : Dlt) : Prop where
  tx : d.1.length ≤ n
  un : d.2.1.length ≤ n
  se : d.2.2.length ≤ n
def raiseS (s : Sta) (l : List (Dot × Int)) : Sta := (s.1, (joinU s.2.1 l, s.2.2))
def sealS (s : Sta) (l : List Dot) : Sta := (s.1, (s.2.1, (s.2.2.1, (unionD s.2.2.2.1 (ofD l), s.2.2.2.2))))
def mergedS (s : Sta) (d : Dlt) : Sta := sealS (raiseS (d.1.foldl putS s) d.2.1) d.2.2
theorem raiseS_can {s : Sta} {l : List (Dot × Int)} (hs : CanS s) (hl : CanU l) : CanS (raiseS s l) := ⟨hs.tx, joinU_can hs.un hl, hs.kn, hs.se, hs.know⟩
theorem sealS_can {s : Sta} {l : List Dot} (hs : CanS s) : CanS (sealS s l) := ⟨hs.tx, hs.un, hs.kn, (unionD_can hs.se (ofD_can l).1).1, hs.know⟩
theorem mergedS_all {s : Sta} {d : Dlt} {n m : Nat} (hs : CanS s) (hd : CanDl d) (ls : LenS n s) (ld : LenD m d) : CanS (mergedS s d) ∧ LenS (n + m) (mergedS s d) ∧ (∀ x, findT (mergedS s d).1 x = (findT s.1 x).or (findT d.1 x)) := by
  obtain ⟨a1, a2, a3, a4, a5, a6⟩ := puts_all d.1 s hs hd.tx.rt
  have b1 := raiseS_can a1 hd.un
  refine ⟨sealS_can b1, ⟨?_, ?_, ?_, ?_, ?_⟩, a2⟩
  · show (d.1.foldl putS s).1.length ≤ _
    have := ls.tx; have := ld.tx; omega
  · show (joinU (d.1.foldl putS s).2.1 d.2.1).length ≤ _
    rw [a3]
    have := joinU_len hs.un hd.un; have := ls.un; have := ld.un; omega
  · show (d.1.foldl putS s).2.2.1.2.length ≤ _
    have := ls.kn; have := ld.tx; omega
  · show (unionD (d.1.foldl putS s).2.2.2.1 (ofD d.2.2)).2.length ≤ _
    rw [a4]
    have := (unionD_can hs.se (ofD_can d.2.2).1).2.2; have := (ofD_can d.2.2).2.2; have := ls.se; have := ld.se; omega
  · show ∀ l ∈ (d.1.foldl putS s).2.2.2.2, l.length ≤ _
    rw [a4]
    intro l hl; have := ls.re l hl; omega
theorem unionD_comm' {s t : DSet} (hs : Can s) (ht : Can t) : unionD s t = unionD t s := by
  obtain ⟨p1, p2, _⟩ := unionD_can hs ht
  obtain ⟨q1, q2, _⟩ := unionD_can ht hs
  exact can_unique p1 q1 fun x => by rw [p2, q2]; exact Or.comm
theorem unionD_assoc' {s t u : DSet} (hs : Can s) (ht : Can t) (hu : Can u) : unionD (unionD s t) u = unionD s (unionD t u) := by
  obtain ⟨p1, p2, _⟩ := unionD_can hs ht
  obtain ⟨m1, m2, _⟩ := unionD_can ht hu
  obtain ⟨r1, r2, _⟩ := unionD_can p1 hu
  obtain ⟨n1, n2, _⟩ := unionD_can hs m1
  exact can_unique r1 n1 fun x => by rw [r2, n2, p2, m2]; exact or_assoc
theorem unionD_swap {s t u : DSet} (hs : Can s) (ht : Can t) (hu : Can u) : unionD (unionD s t) u = unionD (unionD s u) t := by
  rw [unionD_assoc' hs ht hu, unionD_comm' ht hu, ← unionD_assoc' hs hu ht]
theorem unionD_twice {s t : DSet} (hs : Can s) (ht : Can t) : unionD (unionD s t) t = unionD s t := by
  obtain ⟨p1, p2, _⟩ := unionD_can hs ht
  rw [unionD_comm' p1 ht]
  exact (union_eq ht p1).2 fun x hx => (p2 x).2 (.inr hx)
theorem joinU_swap {a b c : List (Dot × Int)} (ha : CanU a) (hb : CanU b) (hc : CanU c) : joinU (joinU a b) c = joinU (joinU a c) b := by
  rw [joinU_assoc ha hb hc, joinU_comm hb hc, ← joinU_assoc ha hc hb]
theorem joinU_twice {a b : List (Dot × Int)} (ha : CanU a) (hb : CanU b) : joinU (joinU a b) b = joinU a b := by
  rw [joinU_assoc ha hb hb, (joinU_eq hb hb).2 fun _ => Int.le_refl _]
/-- What is merged does not ask for the order. -/
theorem merged_swap {s : Sta} {a b : Dlt} {n m : Nat} (hs : CanS s) (ha : CanDl a) (hb : CanDl b) (ls : LenS n s) (la : LenD m a) (lb : LenD m b) (hd : ∀ x ∈ a.1, ∀ y ∈ b.1, x.1 ≠ y.1) : mergedS (mergedS s a) b = mergedS (mergedS s b) a := by
  obtain ⟨a1, a2, a3⟩ := mergedS_all hs ha ls la
  obtain ⟨b1, b2, b3⟩ := mergedS_all hs hb ls lb
  obtain ⟨c1, _, c3⟩ := mergedS_all a1 hb a2 lb
  obtain ⟨d1, _, d3⟩ := mergedS_all b1 ha b2 la
  have e : ∀ (s : Sta) (d : Dlt), CanS s → CanDl d → (mergedS s d).2.1 = joinU s.2.1 d.2.1 ∧ (mergedS s d).2.2.2 = (unionD s.2.2.2.1 (ofD d.2.2), s.2.2.2.2) := fun s d hs hd => by
    obtain ⟨_, _, g3, g4, _, _⟩ := puts_all d.1 s hs hd.tx.rt
    refine ⟨?_, ?_⟩
    · show joinU (d.1.foldl putS s).2.1 d.2.1 = _; rw [g3]
    · show (unionD (d.1.foldl putS s).2.2.2.1 (ofD d.2.2), (d.1.foldl putS s).2.2.2.2) = _; rw [g4]
  refine sta_eq c1 d1 (fun x => ?_) ?_ ?_
  · rw [c3, a3, d3, b3]
    cases hsx : findT s.1 x with
    | some t => rfl
    | none =>
      cases hax : findT a.1 x with
      | none => cases findT b.1 x <;> rfl
      | some t =>
        have : findT b.1 x = none := findT_none.2 fun y hy e => by
          obtain ⟨h1, h2⟩ := findT_some hax
          exact hd t h1 y hy (h2.trans e.symm)
        rw [this]; rfl
  · rw [(e _ b a1 hb).1, (e s a hs ha).1, (e _ a b1 ha).1, (e s b hs hb).1]
    exact joinU_swap hs.un ha.un hb.un
  · rw [(e _ b a1 hb).2, (e s a hs ha).2, (e _ a b1 ha).2, (e s b hs hb).2]
    simp only
    rw [unionD_swap hs.se (ofD_can a.2.2).1 (ofD_can b.2.2).1]
/-- Twice is as once. -/
theorem merged_twice {s : Sta} {a b : Dlt} {n m : Nat} (hs : CanS s) (ha : CanDl a) (hb : CanDl b) (ls : LenS n s) (la : LenD m a) (lb : LenD m b) : mergedS (mergedS (mergedS s a) b) a = mergedS (mergedS s a) b := by
  obtain ⟨a1, a2, a3⟩ := mergedS_all hs ha ls la
  obtain ⟨c1, c2, c3⟩ := mergedS_all a1 hb a2 lb
  obtain ⟨d1, _, d3⟩ := mergedS_all c1 ha c2 la
  have e : ∀ (s : Sta) (d : Dlt), CanS s → CanDl d → (mergedS s d).2.1 = joinU s.2.1 d.2.1 ∧ (mergedS s d).2.2.2 = (unionD s.2.2.2.1 (ofD d.2.2), s.2.2.2.2) := fun s d hs hd => by
    obtain ⟨_, _, g3, g4, _, _⟩ := puts_all d.1 s hs hd.tx.rt
    refine ⟨?_, ?_⟩
    · show joinU (d.1.foldl putS s).2.1 d.2.1 = _; rw [g3]
    · show (unionD (d.1.foldl putS s).2.2.2.1 (ofD d.2.2), (d.1.foldl putS s).2.2.2.2) = _; rw [g4]
  refine sta_eq d1 c1 (fun x => ?_) ?_ ?_
  · rw [d3, c3, a3]
    cases findT s.1 x <;> cases findT a.1 x <;> cases findT b.1 x <;> rfl
  · rw [(e _ a c1 ha).1, (e _ b a1 hb).1, (e s a hs ha).1]
    rw [joinU_swap (joinU_can hs.un ha.un) hb.un ha.un, joinU_twice hs.un ha.un]
  · rw [(e _ a c1 ha).2, (e _ b a1 hb).2, (e s a hs ha).2]
    simp only
    rw [unionD_swap (unionD_can hs.se (ofD_can a.2.2).1).1 (ofD_can b.2.2).1 (ofD_can a.2.2).1, unionD_twice hs.se (ofD_can a.2.2).1]
end Go.Proofs.YtoikjekpckhgeaaGreat
end
section
/- States: what the program's functions, and the document's, come to. -/
namespace Go.Proofs.YtoikjekpckhgeaaGreat
open Pal
theorem cmpD_eq0 (a b : Dot) : ieq (cmpD a b) 0 = decide (a = b) := by
  rw [ieq_dec]; exact decide_eq_decide.2 (cmpD_eq a b)
/-- What a search among transactions finds. -/
def FoundT (l : List Txn) (d : Dot) (p : Nat) (b : Bool) : Prop :=
  p ≤ l.length ∧ (∀ t (h : t < l.length), t < p → dotLt l[t].1 d = true) ∧ (∀ t (h : t < l.length), p ≤ t → dotLt l[t].1 d = false) ∧ b = (findT l d).isSome
theorem bsT_find (k : Nat) (l : List Txn) (d : Dot) (h3 : 3 ≤ k) (hl : l.length < k) (hk : k < 1000000) (hs : CanT l) : ∃ p b, FoundT l d p b ∧ slices_BinarySearchFunc_api_Txn_api_Txn_api_Dot_txn_Find_1.f k l d = some ((p : Int), b) := by
  obtain ⟨q, rfl⟩ : ∃ q, k = q + 3 := ⟨k - 3, by omega⟩
  rw [slices_BinarySearchFunc_api_Txn_api_Txn_api_Dot_txn_Find_1.f_eq]
  obtain ⟨p, h1, h2, h4, h5⟩ := bs_gen l (fun t => dotLt t.1 d) (hs.srt.imp fun {a b} hab hb => dotLt_trans hab hb) (fun n i j => slices_BinarySearchFunc_api_Txn_api_Txn_api_Dot_txn_Find_1.l3 (q + 3) n l (ilen l) (i : Int) (j : Int) d) (fun p => some ((p : Int), match l[p]? with | some t => decide (t.1 = d) | none => false)) (fun n i j hij hj hm => by
    have e1 : ilt (i : Int) (j : Int) = decide (i < j) := ilt_nn i j
    have e3 : iadd .i64 (((i + j) / 2 : Nat) : Int) 1 = (((i + j) / 2 + 1 : Nat) : Int) := iadd_nat (by omega)
    simp only [slices_BinarySearchFunc_api_Txn_api_Txn_api_Dot_txn_Find_1.l3_eq, e1, mid_is (show i + j < 1000000000 by omega), hij, decide_true, br_true, inL_nat, natOf_nat, hm, rd_at' (e := tTxn) hm, txn_Find_1.f_eq, cmpD_is, bnd_some, cmp_lt0, e3]
    cases dotLt l[(i + j) / 2].1 d <;> rfl) (fun n i hi => by
    have e1 : ilt (i : Int) (i : Int) = false := decide_eq_false (by omega)
    simp only [slices_BinarySearchFunc_api_Txn_api_Txn_api_Dot_txn_Find_1.l3_eq, e1, br_false, ilt_nat, inL_nat, natOf_nat]
    by_cases h : i < l.length
    · simp only [h, decide_true, br_true, rd_at' (e := tTxn) h, txn_Find_1.f_eq, cmpD_is, bnd_some, cmpD_eq0, List.getElem?_eq_getElem h]
    · simp only [h, decide_false, br_false, List.getElem?_eq_none (show l.length ≤ i by omega)]) (q + 3) 0 l.length (by omega) (Nat.le_refl _) (by omega) (fun t _ h => by omega) (fun t h h' => by omega)
  refine ⟨p, _, ⟨h1, h2, h4, ?_⟩, h5⟩
  rw [Bool.eq_iff_iff, findT_is]
  constructor
  · intro h
    split at h
    · rename_i t ht
      exact ⟨t, List.mem_of_getElem? ht, of_decide_eq_true h⟩
    · cases h
  · rintro ⟨t, ht, hd⟩
    obtain ⟨j, hj, rfl⟩ := List.mem_iff_getElem.1 ht
    have hpj : ¬ j < p := fun hh => by have := h2 j hj hh; rw [hd, dotLt_swo.irrefl] at this; cases this
    have hjp : ¬ p < j := fun hh => by
      have hlt := List.pairwise_iff_getElem.1 hs.srt p j (by omega) hj hh
      rw [hd] at hlt
      have := h4 p (by omega) (Nat.le_refl _)
      rw [hlt] at this; cases this
    have : j = p := by omega
    subst this
    rw [List.getElem?_eq_getElem hj]; exact decide_eq_true hd
theorem bsT_put (k : Nat) (l : List Txn) (d : Dot) (h3 : 3 ≤ k) (hl : l.length < k) (hk : k < 1000000) (hs : CanT l) : ∃ p b, FoundT l d p b ∧ slices_BinarySearchFunc_api_Txn_api_Txn_api_Dot_txn_Put_1.f k l d = some ((p : Int), b) := by
  obtain ⟨q, rfl⟩ : ∃ q, k = q + 3 := ⟨k - 3, by omega⟩
  rw [slices_BinarySearchFunc_api_Txn_api_Txn_api_Dot_txn_Put_1.f_eq]
  obtain ⟨p, h1, h2, h4, h5⟩ := bs_gen l (fun t => dotLt t.1 d) (hs.srt.imp fun {a b} hab hb => dotLt_trans hab hb) (fun n i j => slices_BinarySearchFunc_api_Txn_api_Txn_api_Dot_txn_Put_1.l3 (q + 3) n l (ilen l) (i : Int) (j : Int) d) (fun p => some ((p : Int), match l[p]? with | some t => decide (t.1 = d) | none => false)) (fun n i j hij hj hm => by
    have e1 : ilt (i : Int) (j : Int) = decide (i < j) := ilt_nn i j
    have e3 : iadd .i64 (((i + j) / 2 : Nat) : Int) 1 = (((i + j) / 2 + 1 : Nat) : Int) := iadd_nat (by omega)
    simp only [slices_BinarySearchFunc_api_Txn_api_Txn_api_Dot_txn_Put_1.l3_eq, e1, mid_is (show i + j < 1000000000 by omega), hij, decide_true, br_true, inL_nat, natOf_nat, hm, rd_at' (e := tTxn) hm, txn_Put_1.f_eq, cmpD_is, bnd_some, cmp_lt0, e3]
    cases dotLt l[(i + j) / 2].1 d <;> rfl) (fun n i hi => by
    have e1 : ilt (i : Int) (i : Int) = false := decide_eq_false (by omega)
    simp only [slices_BinarySearchFunc_api_Txn_api_Txn_api_Dot_txn_Put_1.l3_eq, e1, br_false, ilt_nat, inL_nat, natOf_nat]
    by_cases h : i < l.length
    · simp only [h, decide_true, br_true, rd_at' (e := tTxn) h, txn_Put_1.f_eq, cmpD_is, bnd_some, cmpD_eq0, List.getElem?_eq_getElem h]
    · simp only [h, decide_false, br_false, List.getElem?_eq_none (show l.length ≤ i by omega)]) (q + 3) 0 l.length (by omega) (Nat.le_refl _) (by omega) (fun t _ h => by omega) (fun t h h' => by omega)
  refine ⟨p, _, ⟨h1, h2, h4, ?_⟩, h5⟩
  rw [Bool.eq_iff_iff, findT_is]
  constructor
  · intro h
    split at h
    · rename_i t ht
      exact ⟨t, List.mem_of_getElem? ht, of_decide_eq_true h⟩
    · cases h
  · rintro ⟨t, ht, hd⟩
    obtain ⟨j, hj, rfl⟩ := List.mem_iff_getElem.1 ht
    have hpj : ¬ j < p := fun hh => by have := h2 j hj hh; rw [hd, dotLt_swo.irrefl] at this; cases this
    have hjp : ¬ p < j := fun hh => by
      have hlt := List.pairwise_iff_getElem.1 hs.srt p j (by omega) hj hh
      rw [hd] at hlt
      have := h4 p (by omega) (Nat.le_refl _)
      rw [hlt] at this; cases this
    have : j = p := by omega
    subst this
    rw [List.getElem?_eq_getElem hj]; exact decide_eq_true hd
theorem find_is (k : Nat) (l : List Txn) (d : Dot) (h3 : 3 ≤ k) (hl : l.length < k) (hk : k < 1000000) (hs : CanT l) : ∃ r : Int, txn_Find.f k l d = some r ∧ (0 ≤ r ↔ (findT l d).isSome = true) := by
  obtain ⟨p, b, hf, h⟩ := bsT_find k l d h3 hl hk hs
  rw [txn_Find.f_eq, h]
  simp only [bnd_some]
  have hb := hf.2.2.2
  cases b with
  | true => exact ⟨(p : Int), rfl, ⟨fun _ => hb.symm, fun _ => by omega⟩⟩
  | false => exact ⟨-1, rfl, ⟨fun h => by omega, fun h => by rw [← hb] at h; cases h⟩⟩
theorem tput_is (k : Nat) (l : List Txn) (t : Txn) (h3 : 3 ≤ k) (hl : l.length + 1 < k) (hk : k < 1000000) (hs : CanT l) (ht : rightD t.1 = true) : txn_Put.f k l t = some (if (findT l t.1).isSome then l else insT t l) := by
  obtain ⟨p, b, hf, h⟩ := bsT_put k l t.1 h3 (by omega) hk hs
  rw [txn_Put.f_eq, h]
  simp only [bnd_some]
  have hb := hf.2.2.2
  rw [← hb]
  cases b with
  | true => rfl
  | false =>
    have hn : ∀ x ∈ l, x.1 ≠ t.1 := findT_none.1 (by cases hq : findT l t.1 with
      | none => rfl
      | some x => rw [hq] at hb; cases hb)
    have r1 : room ([] : List Int) l = true := room_le (by simp only [List.length_nil]; omega)
    have r2 : room l (t :: []) = true := room_le (by simp only [List.length_cons, List.length_nil]; omega)
    have hin : inS 0 (p : Int) (ilen l) = true := by
      have h1 : (p : Int) ≤ (l.length : Int) := by have := hf.1; omega
      show (decide ((0 : Int) ≤ 0) && decide ((0 : Int) ≤ (p : Int)) && decide ((p : Int) ≤ (l.length : Int))) = true
      rw [decide_eq_true h1, decide_eq_true (show (0 : Int) ≤ (p : Int) by omega)]; rfl
    rw [r1, r2, hin]
    simp only [br_true, br_false]
    rw [insAt_insT hs ht hn hf.1 hf.2.1 hf.2.2.1]; rfl
theorem sput_is (k : Nat) (s : Sta) (t : Txn) {n : Nat} (h3 : 3 ≤ k) (ls : LenS n s) (hl : n + 1 < k) (hk : k < 1000000) (hs : CanS s) (ht : rightD t.1 = true) : state_Put.f k s t = some (putS s t) := by
  have := ls.tx; have := ls.kn
  obtain ⟨r, hr, hri⟩ := find_is k s.1 t.1 h3 (by omega) hk hs.tx
  rw [state_Put.f_eq, hr]
  simp only [bnd_some]
  unfold putS
  by_cases hf : (findT s.1 t.1).isSome = true
  · rw [if_pos hf]
    have e : ile 0 r = true := decide_eq_true (hri.2 hf)
    rw [e]; rfl
  · rw [if_neg hf]
    have e : ile 0 r = false := decide_eq_false (fun h => hf (hri.1 h))
    rw [e, tput_is k s.1 t h3 (by omega) hk hs.tx ht, put_is k s.2.2.1 t.1 h3 (by omega) hk hs.kn, if_neg hf]
    rfl
theorem sraise_is (k : Nat) (s : Sta) (l : List (Dot × Int)) {n m : Nat} (h3 : 3 ≤ k) (ls : LenS n s) (hl : l.length ≤ m) (hnm : n + m < k) (hk : k < 1000000) : state_Raise.f k s l = some (raiseS s l) := by
  have := ls.un
  rw [state_Raise.f_eq, tjoin_is k s.2.1 l h3 (by omega) hk]; rfl
theorem sseal_is (k : Nat) (s : Sta) (l : List Dot) {n m : Nat} (h17 : 17 < k) (hs : CanS s) (ls : LenS n s) (hl : l.length ≤ m) (hnm : n + m < k) (hk : k < 1000000) : state_Seal.f k s l = some (sealS s l) := by
  have := ls.se
  obtain ⟨c1, _, c3⟩ := ofD_can l
  rw [state_Seal.f_eq, of_is k l (by omega) hk]
  simp only [bnd_some]
  rw [union_is k s.2.2.2.1 (ofD l) hs.se c1 (by omega) h17 hk]; rfl
theorem puts_len {s : Sta} {n : Nat} : ∀ (m : List Txn), CanS s → LenS n s → (∀ t ∈ m, rightD t.1 = true) → LenS (n + m.length) (m.foldl putS s) := by
  intro m hs ls hr
  obtain ⟨b1, b2, b3, b4, b5, b6⟩ := puts_all m s hs hr
  refine ⟨?_, ?_, ?_, ?_, ?_⟩
  · have := ls.tx; omega
  · rw [b3]; have := ls.un; omega
  · have := ls.kn; omega
  · rw [b4]; have := ls.se; omega
  · rw [b4]; intro l hl; have := ls.re l hl; omega
theorem merged_is (k : Nat) (s : Sta) (d : Dlt) {n m : Nat} (h17 : 17 < k) (hs : CanS s) (hd : CanDl d) (ls : LenS n s) (ld : LenD m d) (hnm : n + m + m < k) (hk : k < 1000000) : record_Merged.f k s d = some (mergedS s d) := by
  have := ld.tx; have := ld.un; have := ld.se
  rw [record_Merged.f_eq]
  have key : ∀ n' i (x : Sta), i ≤ d.1.length → d.1.length < n' + i → CanS x → LenS (n + i) x → record_Merged.l2 k n' d.1 (ilen d.1) (i : Int) x d [] [] (zarr 16 0) [] (zarr 16 0) [] (zarr 8 []) = some (sealS (raiseS ((d.1.drop i).foldl putS x) d.2.1) d.2.2) := by
    intro n'
    induction n' with
    | zero => intro i x h h'; omega
    | succ n' ih =>
      intro i x h h' hx hxl
      rw [record_Merged.l2_eq, ilt_nat, inL_nat, natOf_nat]
      by_cases hi : i < d.1.length
      · have hrt := hd.tx.rt _ (List.getElem_mem hi)
        have e3 : iadd .i64 (i : Int) 1 = ((i + 1 : Nat) : Int) := iadd_nat (by omega)
        rw [rd_at' (e := tTxn) hi, sput_is k x _ (by omega) hxl (by omega) hk hx hrt, e3, List.drop_eq_getElem_cons hi]
        simp only [hi, decide_true, br_true, bnd_some, List.foldl_cons]
        refine ih (i + 1) _ (by omega) (by omega) (putS_all hx hrt).1 ?_
        have := puts_len (s := x) (n := n + i) [d.1[i]] hx hxl (fun t ht => by simp at ht; subst ht; exact hrt)
        simpa [Nat.add_assoc] using this
      · rw [List.drop_of_length_le (by omega)]
        simp only [hi, decide_false, br_false, List.foldl_nil]
        rw [sraise_is k x d.2.1 (m := m) (by omega) hxl (by omega) (by omega) hk]
        simp only [bnd_some]
        have hr := raiseS_can hx hd.un
        have hrl : LenS (n + i + m) (raiseS x d.2.1) := ⟨by show x.1.length ≤ _; have := hxl.tx; omega, by show (joinU x.2.1 d.2.1).length ≤ _; have := joinU_len hx.un hd.un; have := hxl.un; omega, by show x.2.2.1.2.length ≤ _; have := hxl.kn; omega, by show x.2.2.2.1.2.length ≤ _; have := hxl.se; omega, fun l hl => by have := hxl.re l hl; omega⟩
        obtain ⟨c1, _, c3⟩ := ofD_can d.2.2
        have := hxl.se
        rw [state_Seal.f_eq, of_is k d.2.2 (by omega) hk]
        simp only [bnd_some]
        rw [union_is k _ (ofD d.2.2) hr.se c1 (by show x.2.2.2.1.2.length + (ofD d.2.2).2.length < k; omega) h17 hk]; rfl
  exact key k 0 s (by omega) (by omega) hs (by simpa using ls)
/-! ### The same -/
theorem deqVal (a b : Val) : deq tValue a b = decide (a = b) := deq_dec (τ := tValue) rfl a b
theorem rsameStr_is (k : Nat) (a b : List Str) (hl : a.length < k) (hk : k < 1000000) : ref03_Same.f k a b = some (decide (a = b)) := by
  rw [ref03_Same.f_eq, ieq_len, bnot_dec]
  by_cases h : a.length = b.length
  · simp only [h, not_true, decide_false, br_false]
    exact loop_same a b h (fun n i => ref03_Same.l4 k n a b (i : Int)) (fun n i hi hi' => by
      simp only [ref03_Same.l4_eq, ilt_nat, inL_nat, natOf_nat, hi, hi', decide_true, br_true, rd_at' (e := .str) hi, rd_at' (e := .str) hi', seq_dec, bnot_dec, br_dec, iadd_nat (show i < 4611686018427387904 by omega)]
      by_cases e : a[i] = b[i] <;> simp [e]) (fun n => by simp only [ref03_Same.l4_eq, ilt_nat, Nat.lt_irrefl, decide_false, br_false]) k (by omega)
  · have : a ≠ b := fun e => h (by rw [e])
    simp only [h, this, not_false_eq_true, decide_true, decide_false, br_true]
theorem op_eq (a b : Op) : a = b ↔ a.1 = b.1 ∧ a.2.2.1 = b.2.2.1 ∧ a.2.2.2.1 = b.2.2.2.1 ∧ a.2.1 = b.2.1 ∧ a.2.2.2.2 = b.2.2.2.2 := by
  obtain ⟨a1, a2, a3, a4, a5⟩ := a; obtain ⟨b1, b2, b3, b4, b5⟩ := b
  simp only [Prod.mk.injEq]
  exact ⟨fun ⟨h1, h2, h3, h4, h5⟩ => ⟨h1, h3, h4, h2, h5⟩, fun ⟨h1, h3, h4, h2, h5⟩ => ⟨h1, h2, h3, h4, h5⟩⟩
structure LenO (n : Nat) (o : Op) : Prop where
  path : o.2.1.length < n
  seen : o.2.2.2.2.length < n
theorem rsameOp_is (k : Nat) (a b : Op) (hl : LenO k a) (hk : k < 1000000) : ref11_Same.f k a b = some (decide (a = b)) := by
  have := hl.seen
  rw [ref11_Same.f_eq, rsameStr_is k a.2.1 b.2.1 hl.path hk]
  simp only [ieq_dec, deqVal, bnot_dec, bnd_some, br_dec, ilen, Int.natCast_inj]
  rw [show decide (a = b) = decide (a.1 = b.1 ∧ a.2.2.1 = b.2.2.1 ∧ a.2.2.2.1 = b.2.2.2.1 ∧ a.2.1 = b.2.1 ∧ a.2.2.2.2 = b.2.2.2.2) from decide_eq_decide.2 (op_eq a b)]
  by_cases h1 : a.1 = b.1
  · by_cases h2 : a.2.2.1 = b.2.2.1
    · by_cases h3 : a.2.2.2.1 = b.2.2.2.1
      · by_cases h4 : a.2.1 = b.2.1
        · by_cases h5 : a.2.2.2.2.length = b.2.2.2.2.length
          · simp only [h1, h2, h3, h4, h5, not_true, if_false, true_and]
            exact loop_same a.2.2.2.2 b.2.2.2.2 h5 (fun n i => ref11_Same.l4 k n (i : Int) a b) (fun n i hi hi' => by
              simp only [ref11_Same.l4_eq, ilt_nat, inL_nat, natOf_nat, hi, hi', decide_true, br_true, rd_at' (e := tUndo) hi, rd_at' (e := tUndo) hi', deqU, bnot_dec, br_dec, iadd_nat (show i < 4611686018427387904 by omega)]
              by_cases e : a.2.2.2.2[i] = b.2.2.2.2[i] <;> simp [e]) (fun n => by simp only [ref11_Same.l4_eq, ilt_nat, Nat.lt_irrefl, decide_false, br_false]) k (by omega)
          · have : a.2.2.2.2 ≠ b.2.2.2.2 := fun e => h5 (by rw [e])
            simp [h1, h2, h3, h4, h5, this]
        · simp [h1, h2, h3, h4]
      · simp [h1, h2, h3]
    · simp [h1, h2]
  · simp [h1]
theorem deqDot (a b : Dot) : deq tDot a b = decide (a = b) := deqD a b
theorem deqBool (a b : Bool) : deq .bool a b = decide (a = b) := by cases a <;> cases b <;> rfl
theorem txn_eq (a b : Txn) : a = b ↔ a.1 = b.1 ∧ a.2.1 = b.2.1 ∧ a.2.2.1 = b.2.2.1 ∧ a.2.2.2.1 = b.2.2.2.1 ∧ a.2.2.2.2 = b.2.2.2.2 := by
  obtain ⟨a1, a2, a3, a4, a5⟩ := a; obtain ⟨b1, b2, b3, b4, b5⟩ := b
  simp only [Prod.mk.injEq]
structure LenT (n : Nat) (t : Txn) : Prop where
  ops : t.2.2.2.2.length < n
  each : ∀ o ∈ t.2.2.2.2, LenO n o
theorem rsameTxn_is (k : Nat) (a b : Txn) (hl : LenT k a) (hk : k < 1000000) : ref12_Same.f k a b = some (decide (a = b)) := by
  have := hl.ops
  rw [ref12_Same.f_eq]
  simp only [ieq_dec, deqDot, deqBool, bnot_dec, bnd_some, br_dec, ilen, Int.natCast_inj]
  rw [show decide (a = b) = decide (a.1 = b.1 ∧ a.2.1 = b.2.1 ∧ a.2.2.1 = b.2.2.1 ∧ a.2.2.2.1 = b.2.2.2.1 ∧ a.2.2.2.2 = b.2.2.2.2) from decide_eq_decide.2 (txn_eq a b)]
  by_cases h1 : a.1 = b.1
  · by_cases h2 : a.2.1 = b.2.1
    · by_cases h3 : a.2.2.1 = b.2.2.1
      · by_cases h4 : a.2.2.2.1 = b.2.2.2.1
        · by_cases h5 : a.2.2.2.2.length = b.2.2.2.2.length
          · simp only [h1, h2, h3, h4, h5, not_true, if_false, true_and]
            exact loop_same a.2.2.2.2 b.2.2.2.2 h5 (fun n i => ref12_Same.l4 k n (i : Int) a b) (fun n i hi hi' => by
              simp only [ref12_Same.l4_eq, ilt_nat, inL_nat, natOf_nat, hi, hi', decide_true, br_true, rd_at' (e := tOp) hi, rd_at' (e := tOp) hi', rsameOp_is k _ _ (hl.each _ (List.getElem_mem hi)) hk, bnd_some, bnot_dec, br_dec, iadd_nat (show i < 4611686018427387904 by omega)]
              by_cases e : a.2.2.2.2[i] = b.2.2.2.2[i] <;> simp [e]) (fun n => by simp only [ref12_Same.l4_eq, ilt_nat, Nat.lt_irrefl, decide_false, br_false]) k (by omega)
          · have : a.2.2.2.2 ≠ b.2.2.2.2 := fun e => h5 (by rw [e])
            simp [h1, h2, h3, h4, h5, this]
        · simp [h1, h2, h3, h4]
      · simp [h1, h2, h3]
    · simp [h1, h2]
  · simp [h1]
theorem rallTxn_is (k : Nat) (a b : List Txn) (hl : a.length < k) (he : ∀ t ∈ a, LenT k t) (hk : k < 1000000) : ref12_All.f k a b = some (decide (a = b)) := by
  rw [ref12_All.f_eq, ieq_len, bnot_dec]
  by_cases h : a.length = b.length
  · simp only [h, not_true, decide_false, br_false]
    exact loop_same a b h (fun n i => ref12_All.l4 k n a b (i : Int)) (fun n i hi hi' => by
      simp only [ref12_All.l4_eq, ilt_nat, inL_nat, natOf_nat, hi, hi', decide_true, br_true, rd_at' (e := tTxn) hi, rd_at' (e := tTxn) hi', rsameTxn_is k _ _ (he _ (List.getElem_mem hi)) hk, bnd_some, bnot_dec, br_dec, iadd_nat (show i < 4611686018427387904 by omega)]
      by_cases e : a[i] = b[i] <;> simp [e]) (fun n => by simp only [ref12_All.l4_eq, ilt_nat, Nat.lt_irrefl, decide_false, br_false]) k (by omega)
  · have : a ≠ b := fun e => h (by rw [e])
    simp only [h, this, not_false_eq_true, decide_true, decide_false, br_true]
theorem sta_ext (s u : Sta) (hs : s.2.2.2.2.length = 8) (hu : u.2.2.2.2.length = 8) : s = u ↔ (∀ i, 0 ≤ i → i < 8 → s.2.2.2.2[i]? = u.2.2.2.2[i]?) ∧ s.1 = u.1 ∧ s.2.1 = u.2.1 ∧ s.2.2.1 = u.2.2.1 ∧ s.2.2.2.1 = u.2.2.2.1 := by
  obtain ⟨a1, a2, a3, a4, a5⟩ := s; obtain ⟨b1, b2, b3, b4, b5⟩ := u
  simp only at hs hu ⊢
  constructor
  · intro h; injection h with h1 h; injection h with h2 h; injection h with h3 h; injection h with h4 h5
    exact ⟨fun i _ _ => by rw [h5], h1, h2, h3, h4⟩
  · rintro ⟨h5, h1, h2, h3, h4⟩
    have : a5 = b5 := List.ext_getElem? fun i => by
      by_cases hi : i < 8
      · exact h5 i (by omega) hi
      · rw [List.getElem?_eq_none (by omega), List.getElem?_eq_none (by omega)]
    rw [h1, h2, h3, h4, this]
end Go.Proofs.YtoikjekpckhgeaaGreat
end
section
/- Which states and deltas the document calls good: what is known of them. -/
namespace Go.Proofs.YtoikjekpckhgeaaGreat
open Pal
def risAt (l : List Txn) (j : Nat) : Prop := ∀ h : j + 1 < l.length, dotLt (l[j]'(by omega)).1 l[j + 1].1 = true
theorem ris_iff {l : List Txn} : l.Pairwise (fun a b => dotLt a.1 b.1 = true) ↔ ∀ j, 0 ≤ j → j < l.length - 1 → risAt l j := by
  constructor
  · intro h j h1 h2 hj
    exact List.pairwise_iff_getElem.1 h j (j + 1) (by omega) hj (by omega)
  · intro h
    refine List.pairwise_iff_getElem.2 fun i j hi hj hij => ?_
    have key : ∀ d i (hd : i + d + 1 < l.length), dotLt (l[i]'(by omega)).1 l[i + d + 1].1 = true := by
      intro d
      induction d with
      | zero => intro i hd; exact h i (by omega) (by omega) hd
      | succ d ih =>
        intro i hd
        exact dotLt_trans (ih i (by omega)) (h (i + d + 1) (by omega) (by omega) (by omega))
    have := key (j - i - 1) i (by omega)
    have e : i + (j - i - 1) + 1 = j := by omega
    simpa only [e] using this
theorem rrises_is (k : Nat) (l : List Txn) (hl : l.length < k) (hk : k < 1000000) : ∃ b, ref12_Rises.f k l = some b ∧ (b = true ↔ l.Pairwise (fun a b => dotLt a.1 b.1 = true)) := by
  rw [ref12_Rises.f_eq]
  obtain ⟨b, hb, hbi⟩ := loop_all' (l.length - 1) (fun n i => ref12_Rises.l2 k n l ((i + 1 : Nat) : Int)) (risAt l) (fun n i hi => by
    have hi0 : i < l.length := by omega
    have hi1 : i + 1 < l.length := by omega
    have e3 : isub .i64 ((i + 1 : Nat) : Int) 1 = (i : Int) := by rw [isub_s (by omega) (by omega) (by omega) (by omega)]; omega
    have e4 : iadd .i64 ((i + 1 : Nat) : Int) 1 = ((i + 1 + 1 : Nat) : Int) := iadd_nat (by omega)
    simp only [ref12_Rises.l2_eq, ilt_nat, e3, inL_nat, natOf_nat, hi0, hi1, decide_true, br_true, rd_at' (e := tTxn) hi0, rd_at' (e := tTxn) hi1, rcmp_is, bnd_some, cmp_m1, e4]
    cases hd : dotLt l[i].1 l[i + 1].1 with
    | true => exact .inl ⟨fun _ => hd, rfl⟩
    | false => exact .inr ⟨fun h => (by have := h hi1; rw [hd] at this; cases this), rfl⟩) (fun n => by
    simp only [ref12_Rises.l2_eq, ilt_nat, show ¬ l.length - 1 + 1 < l.length by omega, decide_false, br_false]) k 0 (by omega) (by omega)
  exact ⟨b, hb, hbi.trans ris_iff.symm⟩
def emptyD : DSet := (zarr 16 0, [])
theorem empty_can : Can emptyD := (ofD_can []).1
theorem empty_mem (x : Dot) : ¬ Mem emptyD x := fun h => by
  have := ((ofD_can []).2.1 x).1 h
  simp at this
def dotsOf (l : List Txn) : List Dot := l.map (·.1)
theorem known_is (k : Nat) (l : List Txn) (hl : l.length + 1 < k) (hk : k < 1000000) (hr : ∀ t ∈ l, rightD t.1 = true) : ref22_Known.f k l = some ((dotsOf l).foldl putD emptyD) := by
  rw [ref22_Known.f_eq]
  have key : ∀ n i (s : DSet), i ≤ l.length → l.length < n + i → Can s → s.2.length ≤ i → ref22_Known.l3 k n l (i : Int) (zarr 16 0) [] s = some ((dotsOf (l.drop i)).foldl putD s) := by
    intro n
    induction n with
    | zero => intro i s h h'; omega
    | succ n ih =>
      intro i s h h' hs hsl
      rw [ref22_Known.l3_eq, ilt_nat, inL_nat, natOf_nat]
      by_cases hi : i < l.length
      · have e3 : iadd .i64 (i : Int) 1 = ((i + 1 : Nat) : Int) := iadd_nat (by omega)
        rw [rd_at' (e := tTxn) hi, rput_is k s l[i].1 (by omega) hk hs, e3, List.drop_eq_getElem_cons hi]
        simp only [hi, decide_true, br_true, bnd_some, dotsOf, List.map_cons, List.foldl_cons]
        obtain ⟨a, _, c⟩ := putD_can hs l[i].1
        exact ih (i + 1) _ (by omega) (by omega) a (by omega)
      · rw [List.drop_of_length_le (by omega)]
        simp only [hi, decide_false, br_false, dotsOf, List.map_nil, List.foldl_nil]
  exact key k 0 emptyD (by omega) (by omega) empty_can (by simp [emptyD])
theorem known_mem {l : List Txn} (hr : ∀ t ∈ l, rightD t.1 = true) : Can ((dotsOf l).foldl putD emptyD) ∧ (∀ x, Mem ((dotsOf l).foldl putD emptyD) x ↔ ∃ t ∈ l, t.1 = x) ∧ ((dotsOf l).foldl putD emptyD).2.length ≤ l.length := by
  obtain ⟨p, q, r⟩ := puts_can (dotsOf l) emptyD empty_can (fun d hd => by
    obtain ⟨t, ht, rfl⟩ := List.mem_map.1 hd; exact hr t ht)
  refine ⟨p, fun x => ?_, ?_⟩
  · rw [q]
    constructor
    · rintro (h | h)
      · exact absurd h (empty_mem x)
      · obtain ⟨t, ht, rfl⟩ := List.mem_map.1 h; exact ⟨t, ht, rfl⟩
    · rintro ⟨t, ht, rfl⟩; exact .inr (List.mem_map.2 ⟨t, ht, rfl⟩)
  · have : (dotsOf l).length = l.length := by simp [dotsOf]
    have e0 : emptyD.2.length = 0 := rfl
    omega
/-- A right state. -/
structure RightS (k : Nat) (s : Sta) : Prop where
  many : s.1.length ≤ 1000
  ris : s.1.Pairwise (fun a b => dotLt a.1 b.1 = true)
  un : CanU s.2.1
  se : Can s.2.2.2.1 ∧ s.2.2.2.1.2.length ≤ 4096
  chk : ∀ t ∈ s.1, ref12_Check.f k t = some 0
  redo : ∀ l ∈ s.2.2.2.2, l.length ≤ 1000 ∧ ∀ d ∈ l, rightD d = true
  kn : Can s.2.2.1 ∧ s.2.2.1.2.length ≤ 4096
  know : s.2.2.1 = (dotsOf s.1).foldl putD emptyD
def chkAt (k : Nat) (l : List Txn) (j : Nat) : Prop := ∀ h : j < l.length, ref12_Check.f k l[j] = some 0
def redoAt (r : List (List Dot)) (j : Nat) : Prop := ∀ h : j < r.length, r[j].length ≤ 1000 ∧ ∀ d ∈ r[j], rightD d = true
def rdAt (l : List Dot) (j : Nat) : Prop := ∀ h : j < l.length, rightD l[j] = true
theorem rdAt_all {l : List Dot} : (∀ j, 0 ≤ j → j < l.length → rdAt l j) ↔ ∀ d ∈ l, rightD d = true := by
  constructor
  · intro h d hd
    obtain ⟨j, hj, rfl⟩ := List.mem_iff_getElem.1 hd
    exact h j (by omega) hj hj
  · intro h j _ hj _; exact h _ (List.getElem_mem hj)
theorem rrightS_is (k : Nat) (s : Sta) (hv1 : s.2.2.1.1.length = 16) (hv2 : s.2.2.2.1.1.length = 16) (hr8 : s.2.2.2.2.length = 8) (hsh : ∀ t ∈ s.1, ShortT t) (hrl : ∀ l ∈ s.2.2.2.2, l.length < k) (hul : s.2.1.length < k) (hk : 5000 < k) (hk2 : k < 1000000) :
    ∃ b, ref22_Right.f k s = some b ∧ (b = true ↔ RightS k s) := by
  rw [ref22_Right.f_eq, show ilt 1000 (ilen s.1) = decide (1000 < s.1.length) from ilt_lenR 1000 s.1]
  by_cases hm : 1000 < s.1.length
  · rw [decide_eq_true hm]; exact ⟨false, rfl, ⟨fun h => (by cases h), fun h => by have := h.many; omega⟩⟩
  rw [decide_eq_false hm]
  obtain ⟨b1, g1, i1⟩ := rrises_is k s.1 (by omega) hk2
  obtain ⟨b2, g2, i2⟩ := rrightU_is k s.2.1 hul hk2
  obtain ⟨b3, g3, i3⟩ := rr_is k s.2.2.2.1 hv2 hk hk2
  obtain ⟨b4, g4, i4⟩ := rr_is k s.2.2.1 hv1 hk hk2
  rw [g1]
  simp only [br_false, bnd_some]
  cases b1 with
  | false => exact ⟨false, rfl, ⟨fun h => (by cases h), fun h => i1.2 h.ris⟩⟩
  | true =>
  have bt : bnot true = false := rfl
  have bf : bnot false = true := rfl
  rw [bt, g2]
  simp only [br_false, bnd_some]
  cases b2 with
  | false => exact ⟨false, rfl, ⟨fun h => (by cases h), fun h => i2.2 h.un⟩⟩
  | true =>
  rw [bt, g3]
  simp only [br_false, bnd_some]
  cases b3 with
  | false => exact ⟨false, rfl, ⟨fun h => (by cases h), fun h => i3.2 h.se⟩⟩
  | true =>
  rw [bt]
  simp only [br_false]
  -- behind the rows of what can be redone
  have tail : (∀ t ∈ s.1, rightD t.1 = true) → ∃ b, (bnd (ref06_Right.f k s.2.2.1) fun r0 => br r0 (bnd (ref22_Known.f k s.1) fun r1 => bnd (ref06_Same.f k s.2.2.1 r1) fun r2 => some r2) (some false)) = some b ∧ (b = true ↔ (Can s.2.2.1 ∧ s.2.2.1.2.length ≤ 4096) ∧ s.2.2.1 = (dotsOf s.1).foldl putD emptyD) := by
    intro hrt
    rw [g4]
    simp only [bnd_some]
    cases b4 with
    | false => exact ⟨false, rfl, ⟨fun h => (by cases h), fun h => i4.2 h.1⟩⟩
    | true =>
      have h4 := i4.1 rfl
      simp only [br_true]
      rw [known_is k s.1 (by omega) hk2 hrt]
      simp only [bnd_some]
      rw [rsame_is k _ _ (by omega) hk2]
      exact ⟨_, rfl, by rw [decide_eq_true_iff]; exact ⟨fun h => ⟨h4, h⟩, fun h => h.2⟩⟩
  -- the rows
  have rows : (∀ t ∈ s.1, rightD t.1 = true) → ∃ b, ref22_Right.l9 k k 0 s = some b ∧ (b = true ↔ (∀ j, 0 ≤ j → j < 8 → redoAt s.2.2.2.2 j) ∧ ((Can s.2.2.1 ∧ s.2.2.1.2.length ≤ 4096) ∧ s.2.2.1 = (dotsOf s.1).foldl putD emptyD)) := by
    intro hrt
    refine loop_all 8 (fun n i => ref22_Right.l9 k n (i : Int) s) (redoAt s.2.2.2.2) (fun n i hi => ?_) _ _ (tail hrt) (fun n => ?_) k 0 (by omega) (by omega)
    · have e1 : ilt (i : Int) 8 = decide (i < 8) := ilt_nn i 8
      have e2 : inB (i : Int) 8 = decide (i < 8) := inB_nat i 8
      have hi1 : i < s.2.2.2.2.length := by omega
      have hll := hrl _ (List.getElem_mem hi1)
      have e4 : ilt 1000 (ilen s.2.2.2.2[i]) = decide (1000 < s.2.2.2.2[i].length) := ilt_lenR 1000 s.2.2.2.2[i]
      simp only [ref22_Right.l9_eq, e1, e2, hi, decide_true, br_true, natOf_nat, rd_at' (e := .slc tDot) hi1, e4]
      by_cases hl : 1000 < s.2.2.2.2[i].length
      · rw [decide_eq_true hl]
        exact .inr ⟨fun h => by have := (h hi1).1; omega, rfl⟩
      · rw [decide_eq_false hl]
        simp only [br_false]
        -- the dots of one row, then the next row
        have inner : ∀ q j, j ≤ s.2.2.2.2[i].length → s.2.2.2.2[i].length < q + j → ((∀ p, j ≤ p → p < s.2.2.2.2[i].length → rdAt s.2.2.2.2[i] p) ∧ ref22_Right.l14 k n q (i : Int) (j : Int) s = ref22_Right.l9 k n ((i + 1 : Nat) : Int) s) ∨ (¬ (∀ p, j ≤ p → p < s.2.2.2.2[i].length → rdAt s.2.2.2.2[i] p) ∧ ref22_Right.l14 k n q (i : Int) (j : Int) s = some false) := by
          intro q
          induction q with
          | zero => intro j h1 h2; omega
          | succ q ih =>
            intro j h1 h2
            have e3 : iadd .i64 (j : Int) 1 = ((j + 1 : Nat) : Int) := iadd_nat (by omega)
            have e5 : iadd .i64 (i : Int) 1 = ((i + 1 : Nat) : Int) := iadd_nat (by omega)
            by_cases hj : j < s.2.2.2.2[i].length
            · simp only [ref22_Right.l14_eq, e2, hi, decide_true, br_true, natOf_nat, rd_at' (e := .slc tDot) hi1, ilt_nat, inL_nat, hj, rd_at' (e := tDot) hj, rright_is, bnd_some, e3]
              cases hd : rightD s.2.2.2.2[i][j] with
              | false => exact .inr ⟨fun h => (by have := h j (Nat.le_refl _) hj hj; rw [hd] at this; cases this), rfl⟩
              | true =>
                rcases ih (j + 1) (by omega) (by omega) with ⟨h3, h4⟩ | ⟨h3, h4⟩
                · refine .inl ⟨fun p hp1 hp2 => ?_, h4⟩
                  by_cases e : p = j
                  · subst e; exact fun _ => hd
                  · exact h3 p (by omega) hp2
                · exact .inr ⟨fun h => h3 fun p hp1 hp2 => h p (by omega) hp2, h4⟩
            · refine .inl ⟨fun p hp1 hp2 => by omega, ?_⟩
              simp only [ref22_Right.l14_eq, e2, hi, decide_true, br_true, natOf_nat, rd_at' (e := .slc tDot) hi1, ilt_nat, hj, decide_false, br_false, e5]
        rcases inner k 0 (by omega) (by omega) with ⟨h3, h4⟩ | ⟨h3, h4⟩
        · exact .inl ⟨fun _ => ⟨by omega, rdAt_all.1 h3⟩, h4⟩
        · exact .inr ⟨fun h => h3 (rdAt_all.2 (h hi1).2), h4⟩
    · have e1 : ilt ((8 : Nat) : Int) 8 = false := rfl
      simp only [ref22_Right.l9_eq, e1, br_false]
  have hdot : (∀ j, 0 ≤ j → j < s.1.length → chkAt k s.1 j) → ∀ t ∈ s.1, rightD t.1 = true := by
    intro h t ht
    obtain ⟨j, hj, rfl⟩ := List.mem_iff_getElem.1 ht
    obtain ⟨e, he, hei⟩ := rtxn_is k s.1[j] (hsh _ ht) (by omega) hk2
    rw [h j (by omega) hj hj] at he
    injection he with he
    exact hei he.symm
  -- the transactions
  have txs : ∃ b, ref22_Right.l4 k k 0 s = some b ∧ (b = true ↔ (∀ j, 0 ≤ j → j < s.1.length → chkAt k s.1 j) ∧ ((∀ j, 0 ≤ j → j < 8 → redoAt s.2.2.2.2 j) ∧ ((Can s.2.2.1 ∧ s.2.2.1.2.length ≤ 4096) ∧ s.2.2.1 = (dotsOf s.1).foldl putD emptyD))) := by
    by_cases hall : ∀ j, 0 ≤ j → j < s.1.length → chkAt k s.1 j
    · refine loop_all s.1.length (fun n i => ref22_Right.l4 k n (i : Int) s) (chkAt k s.1) (fun n i hi => ?_) _ _ (rows (hdot hall)) (fun n => ?_) k 0 (by omega) (by omega)
      · have e3 : iadd .i64 (i : Int) 1 = ((i + 1 : Nat) : Int) := iadd_nat (by omega)
        have hc := hall i (by omega) hi hi
        have ez : ieq (0 : Int) 0 = true := rfl
        simp only [ref22_Right.l4_eq, ilt_nat, inL_nat, natOf_nat, hi, decide_true, br_true, rd_at' (e := tTxn) hi, hc, bnd_some, e3, ez, bt, br_false]
        exact .inl ⟨hall i (by omega) hi, trivial⟩
      · simp only [ref22_Right.l4_eq, ilt_nat, Nat.lt_irrefl, decide_false, br_false]
    · -- it falls at the first that is wrong
      have fall : ∀ n i, i ≤ s.1.length → s.1.length < n + i → (¬ ∀ j, i ≤ j → j < s.1.length → chkAt k s.1 j) → ref22_Right.l4 k n (i : Int) s = some false := by
        intro n
        induction n with
        | zero => intro i h1 h2; omega
        | succ n ih =>
          intro i h1 h2 hne
          have hi : i < s.1.length := Nat.lt_of_not_le fun hle => hne fun j hj1 hj2 => by omega
          have e3 : iadd .i64 (i : Int) 1 = ((i + 1 : Nat) : Int) := iadd_nat (by omega)
          obtain ⟨e, he, _⟩ := rtxn_is k s.1[i] (hsh _ (List.getElem_mem hi)) (by omega) hk2
          rw [ref22_Right.l4_eq, ilt_nat, inL_nat, natOf_nat, rd_at' (e := tTxn) hi, he, e3]
          simp only [hi, decide_true, br_true, bnd_some, ieq_dec, bnot_dec, br_dec]
          by_cases hz : e = 0
          · rw [if_neg (by simpa using hz)]
            refine ih (i + 1) (by omega) (by omega) fun hh => hne fun j hj1 hj2 => ?_
            by_cases ej : j = i
            · subst ej; exact fun _ => by rw [he, hz]
            · exact hh j (by omega) hj2
          · rw [if_pos hz]
      exact ⟨false, fall k 0 (by omega) (by omega) hall, ⟨fun h => (by cases h), fun h => absurd h.1 hall⟩⟩
  obtain ⟨b, hb, hbi⟩ := txs
  refine ⟨b, hb, hbi.trans ⟨fun ⟨h1, h2, h3, h4⟩ => ?_, fun h => ⟨fun j _ hj _ => h.chk _ (List.getElem_mem hj), fun j _ hj hj8 => h.redo _ (List.getElem_mem hj8), h.kn, h.know⟩⟩⟩
  refine ⟨by omega, i1.1 rfl, i2.1 rfl, i3.1 rfl, fun t ht => ?_, fun l hl => ?_, h3, h4⟩
  · obtain ⟨j, hj, rfl⟩ := List.mem_iff_getElem.1 ht
    exact h1 j (by omega) hj hj
  · obtain ⟨j, hj, rfl⟩ := List.mem_iff_getElem.1 hl
    exact h2 j (by omega) (by omega) hj
theorem RightS.can {k : Nat} {s : Sta} (h : RightS k s) (hsh : ∀ t ∈ s.1, ShortT t) (hk : 1000 < k) (hk2 : k < 1000000) : CanS s := by
  have hrt : ∀ t ∈ s.1, rightD t.1 = true := fun t ht => by
    obtain ⟨e, he, hei⟩ := rtxn_is k t (hsh t ht) hk hk2
    rw [h.chk t ht] at he; injection he with he; exact hei he.symm
  exact ⟨⟨hrt, h.ris⟩, h.un, h.kn.1, h.se.1, fun x => by rw [h.know]; exact (known_mem hrt).2.1 x⟩
/-! ### Short ones -/
structure ShortS (s : Sta) : Prop where
  tx : s.1.length ≤ 20
  un : s.2.1.length ≤ 100
  kn : s.2.2.1.2.length ≤ 100
  se : s.2.2.2.1.2.length ≤ 100
  each : ∀ t ∈ s.1, ShortT t
  redo : ∀ l ∈ s.2.2.2.2, l.length ≤ 40
theorem ShortS.len {s : Sta} (h : ShortS s) : LenS 100 s := ⟨Nat.le_trans h.tx (by decide), h.un, h.kn, h.se, fun l hl => Nat.le_trans (h.redo l hl) (by decide)⟩
def shtAt (k : Nat) (l : List Txn) (j : Nat) : Prop := ∀ h : j < l.length, ref12_Short.f k l[j] = some true
def s40At (r : List (List Dot)) (j : Nat) : Prop := ∀ h : j < r.length, r[j].length ≤ 40
theorem shtAt_all {k : Nat} {l : List Txn} (hk : 1000 < k) (hk2 : k < 1000000) (h : ∀ j, 0 ≤ j → j < l.length → shtAt k l j) : ∀ t ∈ l, ShortT t := by
  intro t ht
  obtain ⟨j, hj, rfl⟩ := List.mem_iff_getElem.1 ht
  obtain ⟨b, hb, hbi⟩ := rtxnshort_is k l[j] hk hk2
  rw [h j (by omega) hj hj] at hb
  injection hb with hb; exact hbi hb.symm
theorem sht_step (k : Nat) (t : Txn) (hk : 1000 < k) (hk2 : k < 1000000) : ∃ b, ref12_Short.f k t = some b := by
  obtain ⟨b, hb, _⟩ := rtxnshort_is k t hk hk2
  exact ⟨b, hb⟩
theorem rshortS_is (k : Nat) (s : Sta) (hr8 : s.2.2.2.2.length = 8) (hk : 1000 < k) (hk2 : k < 1000000) : ∃ b, ref22_Short.f k s = some b ∧ (b = true → ShortS s) := by
  rw [ref22_Short.f_eq, show ilt 20 (ilen s.1) = decide (20 < s.1.length) from ilt_lenR 20 _, show ilt 100 (ilen s.2.1) = decide (100 < s.2.1.length) from ilt_lenR 100 _, show ilt 100 (ilen s.2.2.1.2) = decide (100 < s.2.2.1.2.length) from ilt_lenR 100 _, show ilt 100 (ilen s.2.2.2.1.2) = decide (100 < s.2.2.2.1.2.length) from ilt_lenR 100 _]
  simp only [br_dec]
  by_cases h1 : 20 < s.1.length
  · rw [if_pos h1]; exact ⟨false, rfl, fun h => by cases h⟩
  by_cases h2 : 100 < s.2.1.length
  · rw [if_neg h1, if_pos h2]; exact ⟨false, rfl, fun h => by cases h⟩
  by_cases h3 : 100 < s.2.2.1.2.length
  · rw [if_neg h1, if_neg h2, if_pos h3]; exact ⟨false, rfl, fun h => by cases h⟩
  by_cases h4 : 100 < s.2.2.2.1.2.length
  · rw [if_neg h1, if_neg h2, if_neg h3, if_pos h4]; exact ⟨false, rfl, fun h => by cases h⟩
  rw [if_neg h1, if_neg h2, if_neg h3, if_neg h4]
  have rows : ∃ b, ref22_Short.l9 k k 0 s = some b ∧ (b = true ↔ ∀ j, 0 ≤ j → j < 8 → s40At s.2.2.2.2 j) := by
    refine loop_all' 8 (fun n i => ref22_Short.l9 k n (i : Int) s) (s40At s.2.2.2.2) (fun n i hi => ?_) (fun n => ?_) k 0 (by omega) (by omega)
    · have e1 : ilt (i : Int) 8 = decide (i < 8) := ilt_nn i 8
      have e2 : inB (i : Int) 8 = decide (i < 8) := inB_nat i 8
      have hi1 : i < s.2.2.2.2.length := by omega
      have e3 : iadd .i64 (i : Int) 1 = ((i + 1 : Nat) : Int) := iadd_nat (by omega)
      have e4 : ilt 40 (ilen s.2.2.2.2[i]) = decide (40 < s.2.2.2.2[i].length) := ilt_lenR 40 s.2.2.2.2[i]
      simp only [ref22_Short.l9_eq, e1, e2, hi, decide_true, br_true, natOf_nat, rd_at' (e := .slc tDot) hi1, e4, e3, br_dec]
      by_cases hl : 40 < s.2.2.2.2[i].length
      · exact .inr ⟨fun h => by have := h hi1; omega, if_pos hl⟩
      · exact .inl ⟨fun _ => by omega, if_neg hl⟩
    · have e1 : ilt ((8 : Nat) : Int) 8 = false := rfl
      simp only [ref22_Short.l9_eq, e1, br_false]
  obtain ⟨b, hb, hbi⟩ := loop_all s.1.length (fun n i => ref22_Short.l4 k n (i : Int) s) (shtAt k s.1) (fun n i hi => by
    have e3 : iadd .i64 (i : Int) 1 = ((i + 1 : Nat) : Int) := iadd_nat (by omega)
    obtain ⟨c, hc⟩ := sht_step k s.1[i] hk hk2
    simp only [ref22_Short.l4_eq, ilt_nat, inL_nat, natOf_nat, hi, decide_true, br_true, rd_at' (e := tTxn) hi, hc, bnd_some, e3]
    cases c with
    | false => exact .inr ⟨fun h => (by have := h hi; rw [hc] at this; cases this), rfl⟩
    | true => exact .inl ⟨fun _ => hc, rfl⟩) _ _ rows (fun n => by simp only [ref22_Short.l4_eq, ilt_nat, Nat.lt_irrefl, decide_false, br_false]) k 0 (by omega) (by omega)
  refine ⟨b, hb, fun h => ?_⟩
  obtain ⟨q1, q2⟩ := hbi.1 h
  refine ⟨by omega, by omega, by omega, by omega, shtAt_all hk hk2 q1, fun l hl => ?_⟩
  obtain ⟨j, hj, rfl⟩ := List.mem_iff_getElem.1 hl
  exact q2 j (by omega) (by omega) hj
theorem goodS_is (k : Nat) (s : Ty.D tState) (fs : Fits tState s) (hk : 5000 < k) (hk2 : k < 1000000) : ∃ b, ref22_Good.f k s = some b ∧ (b = true → CanS s ∧ ShortS s ∧ RightS k s) := by
  have f1 : s.2.2.1.1.length = 16 := fs.2.2.1.1.1
  have f2 : s.2.2.2.1.1.length = 16 := fs.2.2.2.1.1.1
  have f3 : s.2.2.2.2.length = 8 := fs.2.2.2.2.1
  obtain ⟨b, hb, hbi⟩ := rshortS_is k s f3 (by omega) hk2
  rw [ref22_Good.f_eq, hb]
  simp only [bnd_some]
  cases b with
  | false => exact ⟨false, rfl, fun h => by cases h⟩
  | true =>
    have sh := hbi rfl
    have := sh.un
    obtain ⟨c, hc, hci⟩ := rrightS_is k s f1 f2 f3 sh.each (fun l hl => by have := sh.redo l hl; omega) (by omega) hk hk2
    simp only [br_true, hc, bnd_some]
    exact ⟨c, rfl, fun h => ⟨(hci.1 h).can sh.each (by omega) hk2, sh, hci.1 h⟩⟩
theorem ShortT.lenT {t : Txn} (h : ShortT t) {k : Nat} (hk : 1000 < k) : LenT k t := ⟨by have := h.len; omega, fun o ho => ⟨by have := (h.ops o ho).path.1; omega, by have := (h.ops o ho).seen; omega⟩⟩
/-! ### Deltas -/
structure ShortD (d : Dlt) : Prop where
  tx : d.1.length ≤ 20
  un : d.2.1.length ≤ 100
  se : d.2.2.length ≤ 100
  each : ∀ t ∈ d.1, ShortT t
theorem ShortD.len {d : Dlt} (h : ShortD d) : LenD 100 d := ⟨Nat.le_trans h.tx (by decide), h.un, h.se⟩
structure RightDl (k : Nat) (d : Dlt) : Prop where
  many : d.1.length ≤ 1000
  ris : d.1.Pairwise (fun a b => dotLt a.1 b.1 = true)
  un : CanU d.2.1
  chk : ∀ t ∈ d.1, ref12_Check.f k t = some 0
  se : ∀ x ∈ d.2.2, rightD x = true
theorem RightDl.can {k : Nat} {d : Dlt} (h : RightDl k d) (hsh : ∀ t ∈ d.1, ShortT t) (hk : 1000 < k) (hk2 : k < 1000000) : CanDl d :=
  ⟨⟨fun t ht => by
    obtain ⟨e, he, hei⟩ := rtxn_is k t (hsh t ht) hk hk2
    rw [h.chk t ht] at he; injection he with he; exact hei he.symm, h.ris⟩, h.un, h.se⟩
end Go.Proofs.YtoikjekpckhgeaaGreat
end
section
/- What of a state another one does not know of, and that this is enough: plain facts. -/
namespace Go.Proofs.YtoikjekpckhgeaaGreat
open Pal
abbrev Kno := DSet × (List (Dot × Int) × DSet)
def ofS (s : Sta) : Kno := (s.2.2.1, (s.2.1, s.2.2.2.1))
def overU (a b : List (Dot × Int)) : List (Dot × Int) := a.filter fun u => decide (getU b u.1 < u.2)
def diffT (s : Sta) (k : Kno) : List Txn := s.1.filter fun t => !memB k.1 t.1
def diffD (s : Sta) (k : Kno) : List Dot := (s.1.map (·.1)).filter fun x => memB s.2.2.2.1 x && !memB k.2.2 x
def diffS (s : Sta) (k : Kno) : Dlt := (diffT s k, (overU s.2.1 k.2.1, diffD s k))
theorem CanT.filter {l : List Txn} (h : CanT l) (p : Txn → Bool) : CanT (l.filter p) := ⟨fun t ht => h.rt t (List.mem_filter.1 ht).1, h.srt.filter _⟩
theorem findT_filter {l : List Txn} (h : CanT l) (p : Txn → Bool) (d : Dot) : findT (l.filter p) d = (findT l d).filter p := by
  cases hf : findT l d with
  | none => exact findT_none.2 fun t ht => findT_none.1 hf t (List.mem_filter.1 ht).1
  | some t =>
    obtain ⟨h1, h2⟩ := findT_some hf
    cases hp : p t with
    | true =>
      have := findT_mem (h.filter p) (List.mem_filter.2 ⟨h1, hp⟩)
      rw [← h2, this]; simp [Option.filter, hp]
    | false =>
      have : findT (l.filter p) d = none := findT_none.2 fun u hu e => by
        obtain ⟨u1, u2⟩ := List.mem_filter.1 hu
        have e1 := findT_mem h u1
        rw [e, hf] at e1; injection e1 with e1; subst e1; rw [hp] at u2; cases u2
      rw [this]; simp [Option.filter, hp]
theorem diffS_can {s : Sta} {k : Kno} (hs : CanS s) : CanDl (diffS s k) :=
  ⟨hs.tx.filter _, filter_can hs.un _, fun x hx => by
    obtain ⟨h1, _⟩ := List.mem_filter.1 hx
    obtain ⟨t, ht, rfl⟩ := List.mem_map.1 h1
    exact hs.tx.rt t ht⟩
theorem diffS_len {s : Sta} {k : Kno} {n : Nat} (ls : LenS n s) : LenD n (diffS s k) :=
  ⟨Nat.le_trans (List.length_filter_le _ _) ls.tx, Nat.le_trans (List.length_filter_le _ _) ls.un, Nat.le_trans (List.length_filter_le _ _) (by rw [List.length_map]; exact ls.tx)⟩
theorem overU_get {a b : List (Dot × Int)} (ha : CanU a) (d : Dot) : getU (overU a b) d = if getU b d < getU a d then getU a d else 0 := by
  have hc := filter_can ha (fun u => decide (getU b u.1 < u.2))
  by_cases h : getU b d < getU a d
  · rw [if_pos h]
    by_cases hz : getU a d = 0
    · by_cases hz2 : getU (overU a b) d = 0
      · rw [hz2, hz]
      · have := getU_pos hz2
        have h1 := (List.mem_filter.1 this).1
        have := getU_mem ha h1; simp only at this; omega
    · have h1 := getU_pos hz
      have h2 : (d, getU a d) ∈ overU a b := List.mem_filter.2 ⟨h1, decide_eq_true h⟩
      have := getU_mem hc h2; exact this
  · rw [if_neg h]
    by_cases hz2 : getU (overU a b) d = 0
    · exact hz2
    · have h0 := getU_pos hz2
      obtain ⟨h1, h2⟩ := List.mem_filter.1 h0
      have h3 := getU_mem ha h1
      have h4 := of_decide_eq_true h2
      simp only at h3 h4
      omega
theorem joinU_over {a b : List (Dot × Int)} (ha : CanU a) (hb : CanU b) : joinU b (overU a b) = joinU a b :=
  canU_unique (joinU_can hb (filter_can ha _)) (joinU_can ha hb) fun d => by
    have ho : CanU (overU a b) := filter_can ha _
    rw [joinU_get hb ho, joinU_get ha hb]
    have := (getU_range ha d).1; have := (getU_range hb d).1
    rw [overU_get ha]
    by_cases h : getU b d < getU a d
    · rw [if_pos h, Int.max_comm]
    · rw [if_neg h]; omega
theorem Option.isSome_or' {α : Type} (a b : Option α) : (a.or b).isSome = (a.isSome || b.isSome) := by cases a <;> cases b <;> rfl
structure EnoughS (s t : Sta) (m : Sta) : Prop where
  can : CanS m
  kn : m.2.2.1 = unionD s.2.2.1 t.2.2.1
  un : m.2.1 = joinU s.2.1 t.2.1
  se : ∀ x ∈ s.1, memB m.2.2.2.1 x.1 = (memB s.2.2.2.1 x.1 || memB t.2.2.2.1 x.1)
  none : diffS s (ofS m) = ([], ([], []))
  k1 : unionD t.2.2.1 m.2.2.1 = m.2.2.1
  k2 : joinU t.2.1 m.2.1 = m.2.1
  k3 : unionD t.2.2.2.1 m.2.2.2.1 = m.2.2.2.1
theorem enough {s t : Sta} {n m : Nat} (hs : CanS s) (ht : CanS t) (ls : LenS n s) (lt : LenS m t) : EnoughS s t (mergedS t (diffS s (ofS t))) ∧ LenS (m + n) (mergedS t (diffS s (ofS t))) := by
  have hd : CanDl (diffS s (ofS t)) := diffS_can hs
  obtain ⟨c1, c2, c3⟩ := mergedS_all ht hd lt (diffS_len ls)
  obtain ⟨_, _, g3, g4, _, _⟩ := puts_all (diffS s (ofS t)).1 t ht hd.tx.rt
  have eu : (mergedS t (diffS s (ofS t))).2.1 = joinU s.2.1 t.2.1 := by
    show joinU ((diffS s (ofS t)).1.foldl putS t).2.1 _ = _
    rw [g3]; exact joinU_over hs.un ht.un
  have es : (mergedS t (diffS s (ofS t))).2.2.2.1 = unionD t.2.2.2.1 (ofD (diffD s (ofS t))) := by
    show unionD ((diffS s (ofS t)).1.foldl putS t).2.2.2.1 _ = _
    rw [g4]; rfl
  obtain ⟨o1, o2, _⟩ := ofD_can (diffD s (ofS t))
  obtain ⟨p1, p2, _⟩ := unionD_can ht.se o1
  obtain ⟨q1, q2, _⟩ := unionD_can hs.kn ht.kn
  have hknow : ∀ x, Mem (mergedS t (diffS s (ofS t))).2.2.1 x ↔ Mem s.2.2.1 x ∨ Mem t.2.2.1 x := fun x => by
    rw [c1.know, ← findT_is, c3, Option.isSome_or', Bool.or_eq_true, findT_is, ← ht.know]
    have e : findT (diffS s (ofS t)).1 x = (findT s.1 x).filter (fun u => !memB t.2.2.1 u.1) := findT_filter hs.tx _ x
    rw [e, hs.know, ← findT_is]
    constructor
    · rintro (h | h)
      · exact .inr h
      · refine .inl ?_
        cases hf : findT s.1 x with
        | none => rw [hf] at h; cases h
        | some u => rfl
    · rintro (h | h)
      · by_cases hm : Mem t.2.2.1 x
        · exact .inl hm
        · refine .inr ?_
          cases hf : findT s.1 x with
          | none => rw [hf] at h; cases h
          | some u =>
            have hu := (findT_some hf).2
            have : memB t.2.2.1 u.1 = false := by
              cases hb : memB t.2.2.1 u.1 with
              | false => rfl
              | true => rw [hu] at hb; exact absurd ((memB_iff _ _).1 hb) hm
            simp [Option.filter, this]
      · exact .inl h
  have hse : ∀ x, Mem (mergedS t (diffS s (ofS t))).2.2.2.1 x ↔ Mem t.2.2.2.1 x ∨ (rightD x = true ∧ x ∈ diffD s (ofS t)) := fun x => by
    rw [es, p2]
    exact or_congr Iff.rfl ⟨fun h => by have := (o2 x).1 h; first | exact this | exact ⟨this.2, this.1⟩, fun h => (o2 x).2 (by first | exact h | exact ⟨h.2, h.1⟩)⟩
  refine ⟨⟨c1, can_unique c1.kn q1 fun x => by rw [hknow, q2], eu, fun x hx => ?_, ?_, ?_, ?_, ?_⟩, c2⟩
  · rw [Bool.eq_iff_iff, Bool.or_eq_true, memB_iff, memB_iff, memB_iff, hse]
    constructor
    · rintro (h | ⟨_, h⟩)
      · exact .inr h
      · have := (List.mem_filter.1 h).2
        simp only [Bool.and_eq_true] at this
        exact .inl ((memB_iff _ _).1 this.1)
    · rintro (h | h)
      · by_cases ht2 : Mem t.2.2.2.1 x.1
        · exact .inl ht2
        · refine .inr ⟨hs.tx.rt x hx, List.mem_filter.2 ⟨List.mem_map.2 ⟨x, hx, rfl⟩, ?_⟩⟩
          have h1 : memB s.2.2.2.1 x.1 = true := (memB_iff _ _).2 h
          have h2 : memB (ofS t).2.2 x.1 = false := by
            cases hb : memB (ofS t).2.2 x.1 with
            | false => rfl
            | true => exact absurd ((memB_iff _ _).1 hb) ht2
          rw [h1, h2]; rfl
      · exact .inl h
  · have a1 : diffT s (ofS (mergedS t (diffS s (ofS t)))) = [] := List.filter_eq_nil_iff.2 fun u hu => by
      have : memB (ofS (mergedS t (diffS s (ofS t)))).1 u.1 = true := (memB_iff _ _).2 ((hknow u.1).2 (.inl ((hs.know u.1).2 ⟨u, hu, rfl⟩)))
      rw [this]; decide
    have a2 : overU s.2.1 (ofS (mergedS t (diffS s (ofS t)))).2.1 = [] := List.filter_eq_nil_iff.2 fun u hu => by
      have e : (ofS (mergedS t (diffS s (ofS t)))).2.1 = joinU s.2.1 t.2.1 := eu
      rw [e, joinU_get hs.un ht.un, getU_mem hs.un hu]
      intro h; have := of_decide_eq_true h; omega
    have a3 : diffD s (ofS (mergedS t (diffS s (ofS t)))) = [] := List.filter_eq_nil_iff.2 fun x hx => by
      cases h1 : memB s.2.2.2.1 x with
      | false => simp
      | true =>
        obtain ⟨u, hu, rfl⟩ := List.mem_map.1 hx
        have : memB (ofS (mergedS t (diffS s (ofS t)))).2.2 u.1 = true := by
          refine (memB_iff _ _).2 ((hse u.1).2 ?_)
          by_cases ht2 : Mem t.2.2.2.1 u.1
          · exact .inl ht2
          · refine .inr ⟨hs.tx.rt u hu, List.mem_filter.2 ⟨hx, ?_⟩⟩
            have h2 : memB (ofS t).2.2 u.1 = false := by
              cases hb : memB (ofS t).2.2 u.1 with
              | false => rfl
              | true => exact absurd ((memB_iff _ _).1 hb) ht2
            rw [h1, h2]; rfl
        rw [this]; simp
    show (diffT s _, (overU s.2.1 _, diffD s _)) = _
    rw [a1, a2, a3]
  · exact (union_eq ht.kn c1.kn).2 fun x hx => (hknow x).2 (.inr hx)
  · rw [eu]; exact (joinU_eq ht.un (joinU_can hs.un ht.un)).2 fun d => by rw [joinU_get hs.un ht.un]; omega
  · exact (union_eq ht.se c1.se).2 fun x hx => (hse x).2 (.inl hx)
end Go.Proofs.YtoikjekpckhgeaaGreat
end
section
/- What of a state another one does not know of: what the program's functions come to. -/
namespace Go.Proofs.YtoikjekpckhgeaaGreat
open Pal
theorem bsU (k : Nat) (l : List (Dot × Int)) (d : Dot) (h3 : 3 ≤ k) (hl : l.length < k) (hk : k < 1000000) (hs : CanU l) : ∃ (p : Nat) (b : Bool), slices_BinarySearchFunc_api_Undo_api_Undo_api_Undo_tally_compare.f k l (d, 0) = some ((p : Int), b) ∧
    ((b = true ∧ ∃ h : p < l.length, l[p].1 = d) ∨ (b = false ∧ ∀ u ∈ l, u.1 ≠ d)) := by
  obtain ⟨q, rfl⟩ : ∃ q, k = q + 3 := ⟨k - 3, by omega⟩
  rw [slices_BinarySearchFunc_api_Undo_api_Undo_api_Undo_tally_compare.f_eq]
  obtain ⟨p, h1, h2, h4, h5⟩ := bs_gen l (fun t => dotLt t.1 d) (hs.srt.imp fun {a b} hab hb => dotLt_trans hab hb) (fun n i j => slices_BinarySearchFunc_api_Undo_api_Undo_api_Undo_tally_compare.l3 (q + 3) n l (ilen l) (i : Int) (j : Int) (d, 0)) (fun p => some ((p : Int), match l[p]? with | some t => decide (t.1 = d) | none => false)) (fun n i j hij hj hm => by
    have e1 : ilt (i : Int) (j : Int) = decide (i < j) := ilt_nn i j
    have e3 : iadd .i64 (((i + j) / 2 : Nat) : Int) 1 = (((i + j) / 2 + 1 : Nat) : Int) := iadd_nat (by omega)
    simp only [slices_BinarySearchFunc_api_Undo_api_Undo_api_Undo_tally_compare.l3_eq, e1, mid_is (show i + j < 1000000000 by omega), hij, decide_true, br_true, inL_nat, natOf_nat, hm, rd_at' (e := tUndo) hm, tcmp_is (q + 3) _ _ h3, bnd_some, cmp_lt0, e3]
    cases dotLt l[(i + j) / 2].1 d <;> rfl) (fun n i hi => by
    have e1 : ilt (i : Int) (i : Int) = false := decide_eq_false (by omega)
    simp only [slices_BinarySearchFunc_api_Undo_api_Undo_api_Undo_tally_compare.l3_eq, e1, br_false, ilt_nat, inL_nat, natOf_nat]
    by_cases h : i < l.length
    · simp only [h, decide_true, br_true, rd_at' (e := tUndo) h, tcmp_is (q + 3) _ _ h3, bnd_some, cmpD_eq0, List.getElem?_eq_getElem h]
    · simp only [h, decide_false, br_false, List.getElem?_eq_none (show l.length ≤ i by omega)]) (q + 3) 0 l.length (by omega) (Nat.le_refl _) (by omega) (fun t _ h => by omega) (fun t h h' => by omega)
  have key : ∀ u ∈ l, u.1 = d → ∃ h : p < l.length, l[p].1 = d := fun u hu hd => by
    obtain ⟨j, hj, rfl⟩ := List.mem_iff_getElem.1 hu
    have hpj : ¬ j < p := fun hh => by have := h2 j hj hh; rw [hd, dotLt_swo.irrefl] at this; cases this
    have hjp : ¬ p < j := fun hh => by
      have hlt := List.pairwise_iff_getElem.1 hs.srt p j (by omega) hj hh
      rw [hd] at hlt
      have := h4 p (by omega) (Nat.le_refl _)
      rw [hlt] at this; cases this
    have : j = p := by omega
    subst this
    exact ⟨hj, hd⟩
  by_cases hp : ∃ h : p < l.length, l[p].1 = d
  · obtain ⟨h, hd⟩ := hp
    refine ⟨p, true, ?_, .inl ⟨rfl, h, hd⟩⟩
    refine h5.trans ?_
    rw [List.getElem?_eq_getElem h]
    simp only [hd, decide_true]
  · refine ⟨p, false, ?_, .inr ⟨rfl, fun u hu hd => hp (key u hu hd)⟩⟩
    refine h5.trans ?_
    by_cases h : p < l.length
    · rw [List.getElem?_eq_getElem h]
      simp only [show ¬ l[p].1 = d from fun e => hp ⟨h, e⟩, decide_false]
    · rw [List.getElem?_eq_none (by omega)]
theorem tget_is (k : Nat) (l : List (Dot × Int)) (d : Dot) (h3 : 3 ≤ k) (hl : l.length < k) (hk : k < 1000000) (hs : CanU l) : tally_Get.f k l d = some (getU l d) := by
  obtain ⟨p, b, h, hc⟩ := bsU k l d h3 hl hk hs
  rw [tally_Get.f_eq, tally_at.f_eq, h]
  simp only [bnd_some]
  rcases hc with ⟨rfl, hp, hd⟩ | ⟨rfl, hn⟩
  · have := getU_mem hs (List.getElem_mem hp)
    rw [hd] at this
    rw [inL_nat, decide_eq_true hp, natOf_nat, rd_at' (e := tUndo) hp, this]; rfl
  · rw [getU_none hn]; rfl
theorem over_is (k : Nat) (a b : List (Dot × Int)) (h3 : 3 ≤ k) (hl : a.length < k) (hlb : b.length < k) (hk : k < 1000000) (hb : CanU b) : tally_Over.f k a b = some (overU a b) := by
  have key : ∀ (n i : Nat) (x : List (Dot × Int)), i ≤ a.length → a.length < n + i → x.length ≤ i → tally_Over.l3 k n b x a (ilen a) (i : Int) = some (x ++ (a.drop i).filter fun u => decide (getU b u.1 < u.2)) := by
    intro n
    induction n with
    | zero => intro i x h h'; omega
    | succ n ih =>
      intro i x h h' hx
      rw [tally_Over.l3_eq]
      by_cases hi : i < a.length
      · have e3 : iadd .i64 (i : Int) 1 = ((i + 1 : Nat) : Int) := iadd_nat (by omega)
        rw [List.drop_eq_getElem_cons hi]
        have e5 : ilt (getU b a[i].1) a[i].2 = decide (getU b a[i].1 < a[i].2) := rfl
        simp only [ilt_nat, inL_nat, natOf_nat, hi, decide_true, br_true, rd_at' (e := tUndo) hi, tget_is k b _ h3 hlb hk hb, bnd_some, e3, room1 (show x.length < 4000000 by omega), e5, br_dec, List.filter_cons]
        by_cases hc : getU b a[i].1 < a[i].2
        · rw [if_pos hc, ih (i + 1) (app x (a[i] :: [])) (by omega) (by omega) (by simp [app]; omega), decide_eq_true hc, if_pos rfl]
          simp [app]
        · rw [if_neg hc, ih (i + 1) x (by omega) (by omega) (by omega), decide_eq_false hc, if_neg (by simp)]
      · simp only [ilt_nat, hi, decide_false, br_false]
        rw [List.drop_eq_nil_of_le (by omega)]; simp
  rw [tally_Over.f_eq]
  exact key k 0 [] (by omega) (by omega) (Nat.le_refl _)
theorem dof_is (k : Nat) (s : Sta) {n : Nat} (ls : LenS n s) (hn : n < 1000000) : delta_Of.f k s = some (ofS s) := by
  have h : room ([] : List Int) s.2.1 = true := room_le (by have := ls.un; simp only [List.length_nil]; omega)
  rw [delta_Of.f_eq]
  refine (congrArg (fun b => br b (some (ofS s)) none) h).trans rfl
theorem diff_is (k : Nat) (s : Sta) (q : Kno) {n m : Nat} (h3 : 3 ≤ k) (hs : CanS s) (ls : LenS n s) (hn : n < k) (q1 : Can q.1) (q2 : CanU q.2.1) (q3 : Can q.2.2) (l1 : q.1.2.length ≤ m) (l2 : q.2.1.length ≤ m) (l3 : q.2.2.2.length ≤ m) (hm : m < k) (hk : k < 1000000) :
    delta_Diff.f k s q = some (diffS s q) := by
  have htx := ls.tx; have hun := ls.un; have hse := ls.se
  have key : ∀ (n' i : Nat) (x : List Txn) (y : List Dot), i ≤ s.1.length → s.1.length < n' + i → x.length ≤ i → y.length ≤ i → delta_Diff.l3 k n' s.1 (ilen s.1) (i : Int) s q [] [] [] x [] y =
      some (x ++ (s.1.drop i).filter (fun t => !memB q.1 t.1), (overU s.2.1 q.2.1, y ++ ((s.1.drop i).map (·.1)).filter fun x => memB s.2.2.2.1 x && !memB q.2.2 x)) := by
    intro n'
    induction n' with
    | zero => intro i x y h h'; omega
    | succ n' ih =>
      intro i x y h h' hx hy
      rw [delta_Diff.l3_eq]
      by_cases hi : i < s.1.length
      · have e3 : iadd .i64 (i : Int) 1 = ((i + 1 : Nat) : Int) := iadd_nat (by omega)
        rw [List.drop_eq_getElem_cons hi]
        have g1 := has_is k q.1 (s.1[i]).1 h3 (by omega) hk q1
        have g2 := has_is k s.2.2.2.1 (s.1[i]).1 h3 (by omega) hk hs.se
        have g3 := has_is k q.2.2 (s.1[i]).1 h3 (by omega) hk q3
        have bt : bnot true = false := rfl
        have bf : bnot false = true := rfl
        simp only [ilt_nat, inL_nat, natOf_nat, hi, decide_true, br_true, rd_at' (e := tTxn) hi, g1, g2, g3, bnd_some, e3, room1 (show x.length < 4000000 by omega), room1 (show y.length < 4000000 by omega), List.filter_cons, List.map_cons]
        have r1 := ih (i + 1) (app x (s.1[i] :: [])) (app y (s.1[i].1 :: [])) (by omega) (by omega) (by simp [app]; omega) (by simp [app]; omega)
        have r2 := ih (i + 1) (app x (s.1[i] :: [])) y (by omega) (by omega) (by simp [app]; omega) (by omega)
        have r3 := ih (i + 1) x (app y (s.1[i].1 :: [])) (by omega) (by omega) (by omega) (by simp [app]; omega)
        have r4 := ih (i + 1) x y (by omega) (by omega) (by omega) (by omega)
        cases memB q.1 (s.1[i]).1 <;> cases memB s.2.2.2.1 (s.1[i]).1 <;> cases memB q.2.2 (s.1[i]).1 <;> simp only [bt, bf, br_true, br_false, r1, r2, r3, r4] <;> simp [app]
      · simp only [ilt_nat, hi, decide_false, br_false, over_is k s.2.1 q.2.1 h3 (by omega) (by omega) hk q2, bnd_some]
        rw [List.drop_eq_nil_of_le (by omega)]; simp
  rw [delta_Diff.f_eq]
  exact key k 0 [] [] (by omega) (by omega) (Nat.le_refl _) (Nat.le_refl _)
end Go.Proofs.YtoikjekpckhgeaaGreat
end
section
/- Peers: the program's and the document's do the same. -/
set_option linter.unusedVariables false
set_option linter.unusedSimpArgs false
namespace Go.Proofs.YtoikjekpckhgeaaGreat
open Pal
abbrev Peers := Int × (Int × List Know)
/-! ### Counts that may be: the program's test -/
theorem trightU_is (k : Nat) (l : List Undo) (h3 : 3 ≤ k) (hl : l.length < k) (hk : k < 1000000) : ∃ b, tally_Right.f k l = some b ∧ (b = true ↔ CanU l) := by
  obtain ⟨b, hb, hbi⟩ := loop_all' l.length (fun n i => tally_Right.l2 k n l l (ilen l) (i : Int)) (okU l) (fun n i hi => by
    have e4 : iadd .i64 (i : Int) 1 = ((i + 1 : Nat) : Int) := iadd_nat (by omega)
    simp only [tally_Right.l2_eq, ilt_nat, inL_nat, natOf_nat, hi, decide_true, br_true, rd_at' (e := tUndo) hi, right_is, bnd_some, e4]
    have key : ∀ hr : rightU l[i] = false, ¬ okU l i := fun hr h => by have := (h hi).1; rw [hr] at this; cases this
    have bt : bnot true = false := rfl
    have bf : bnot false = true := rfl
    cases hd : rightD l[i].1 with
    | false => exact .inr ⟨key (by unfold rightU; rw [hd]; rfl), by rw [bf]; rfl⟩
    | true =>
      rw [bt]
      simp only [br_false, ilt_dec, br_dec]
      by_cases h1 : l[i].2 < 1
      · exact .inr ⟨key (by unfold rightU; rw [hd, decide_eq_false (by omega)]; rfl), if_pos h1⟩
      · rw [if_neg h1]
        by_cases h2 : 64 < l[i].2
        · exact .inr ⟨key (by unfold rightU; rw [hd, decide_eq_false (by omega)]; rfl), if_pos h2⟩
        · rw [if_neg h2]
          have hu : rightU l[i] = true := by unfold rightU; rw [hd, decide_eq_true (by omega)]; rfl
          by_cases h0 : 0 < i
          · have hi1 : i - 1 < l.length := by omega
            have e3 : isub .i64 (i : Int) 1 = ((i - 1 : Nat) : Int) := by rw [isub_s (by omega) (by omega) (by omega) (by omega)]; omega
            have e5 : (0 : Int) < (i : Int) := by omega
            rw [if_pos e5, e3, inL_nat, natOf_nat, rd_at' (e := tUndo) hi1, tcmp_is k _ _ h3]
            simp only [hi1, decide_true, br_true, bnd_some, ile_dec, br_dec]
            have hcc : cmpD l[i - 1].1 l[i].1 < 0 ↔ dotLt l[i - 1].1 l[i].1 = true := by rw [← cmp_lt0]; exact decide_eq_true_iff.symm
            by_cases hc : 0 ≤ cmpD l[i - 1].1 l[i].1
            · exact .inr ⟨fun h => by have := hcc.2 ((h hi).2 h0); omega, if_pos hc⟩
            · exact .inl ⟨fun _ => ⟨hu, fun _ => hcc.1 (by omega)⟩, if_neg hc⟩
          · have e5 : ¬ (0 : Int) < (i : Int) := by omega
            exact .inl ⟨fun _ => ⟨hu, fun h => absurd h h0⟩, if_neg e5⟩) (fun n => by
    simp only [tally_Right.l2_eq, ilt_nat, Nat.lt_irrefl, decide_false, br_false]) k 0 (by omega) (by omega)
  rw [tally_Right.f_eq]
  refine ⟨b, hb, hbi.trans ?_⟩
  rw [canU_iff]
  exact ⟨fun h j hj => h j (by omega) hj hj, fun h j _ _ hj => h j hj⟩
theorem rightK_both (k : Nat) (a : Know) (v1 : a.1.1.length = 16) (v2 : a.2.2.1.length = 16) (hl : a.2.1.length < k) (hk : 5000 < k) (hk2 : k < 1000000) :
    ∃ b, delta_Right.f k a = some b ∧ ref24_Right.f k a = some b ∧ (b = true → CanK a) := by
  obtain ⟨b1, g1, i1⟩ := dr_is k a.1 v1 hk hk2
  obtain ⟨b2, g2, i2⟩ := trightU_is k a.2.1 (by omega) hl hk2
  obtain ⟨b3, g3, i3⟩ := dr_is k a.2.2 v2 hk hk2
  obtain ⟨c1, f1, j1⟩ := rr_is k a.1 v1 hk hk2
  obtain ⟨c2, f2, j2⟩ := rrightU_is k a.2.1 hl hk2
  obtain ⟨c3, f3, j3⟩ := rr_is k a.2.2 v2 hk hk2
  have e1 : b1 = c1 := by rw [Bool.eq_iff_iff, i1, j1]
  have e2 : b2 = c2 := by rw [Bool.eq_iff_iff, i2, j2]
  have e3 : b3 = c3 := by rw [Bool.eq_iff_iff, i3, j3]
  subst e1; subst e2; subst e3
  rw [delta_Right.f_eq, ref24_Right.f_eq, g1, g2, g3, f1, f2, f3]
  simp only [bnd_some]
  refine ⟨b1 && (b2 && b3), ?_, ?_, fun h => ?_⟩
  · cases b1 <;> cases b2 <;> cases b3 <;> rfl
  · cases b1 <;> cases b2 <;> cases b3 <;> rfl
  · cases b1 with
    | false => cases h
    | true =>
      cases b2 with
      | false => cases h
      | true =>
        cases b3 with
        | false => cases h
        | true => exact ⟨(i1.1 rfl).1, i2.1 rfl, (i3.1 rfl).1⟩
theorem shortK_is (k : Nat) (a : Know) : ∃ b, ref24_Short.f k a = some b ∧ (b = true → LenK 100 a) := by
  have e : ∀ {α : Type} (xs : List α), ile (ilen xs) 100 = decide (xs.length ≤ 100) := fun xs => by unfold ile ilen; exact decide_eq_decide.2 ⟨fun h => by omega, fun h => by omega⟩
  rw [ref24_Short.f_eq, e, e, e]
  simp only [br_dec]
  by_cases h1 : List.length a.1.2 ≤ 100
  · rw [if_pos h1]
    by_cases h2 : List.length a.2.1 ≤ 100
    · rw [if_pos h2]
      by_cases h3 : List.length a.2.2.2 ≤ 100
      · rw [decide_eq_true h3]; exact ⟨true, rfl, fun _ => ⟨h1, h2, h3⟩⟩
      · rw [decide_eq_false h3]; exact ⟨false, rfl, fun h => by cases h⟩
    · rw [if_neg h2]; exact ⟨false, rfl, fun h => by cases h⟩
  · rw [if_neg h1]; exact ⟨false, rfl, fun h => by cases h⟩
/-! ### What a state tells that is not known: the document's -/
theorem rover_is (k : Nat) (a b : List (Dot × Int)) (hl : a.length < k) (hlb : b.length < k) (hk : k < 1000000) : ref08_Over.f k a b = some (overU a b) := by
  have key : ∀ (n i : Nat) (x : List (Dot × Int)), i ≤ a.length → a.length < n + i → x.length ≤ i → ref08_Over.l3 k n a b x (i : Int) = some (x ++ (a.drop i).filter fun u => decide (getU b u.1 < u.2)) := by
    intro n
    induction n with
    | zero => intro i x h h'; omega
    | succ n ih =>
      intro i x h h' hx
      rw [ref08_Over.l3_eq]
      by_cases hi : i < a.length
      · have e3 : iadd .i64 (i : Int) 1 = ((i + 1 : Nat) : Int) := iadd_nat (by omega)
        rw [List.drop_eq_getElem_cons hi]
        have e5 : ilt (getU b a[i].1) a[i].2 = decide (getU b a[i].1 < a[i].2) := rfl
        simp only [ilt_nat, inL_nat, natOf_nat, hi, decide_true, br_true, rd_at' (e := tUndo) hi, rget_is k b _ hlb hk, bnd_some, e3, room1 (show x.length < 4000000 by omega), e5, br_dec, List.filter_cons]
        by_cases hc : getU b a[i].1 < a[i].2
        · rw [if_pos hc, ih (i + 1) (app x (a[i] :: [])) (by omega) (by omega) (by simp [app]; omega), decide_eq_true hc, if_pos rfl]
          simp [app]
        · rw [if_neg hc, ih (i + 1) x (by omega) (by omega) (by omega), decide_eq_false hc, if_neg (by simp)]
      · simp only [ilt_nat, hi, decide_false, br_false]
        rw [List.drop_eq_nil_of_le (by omega)]; simp
  rw [ref08_Over.f_eq]
  exact key k 0 [] (by omega) (by omega) (Nat.le_refl _)
theorem rdiff_is (k : Nat) (s : Sta) (q : Kno) {n m : Nat} (hs : CanS s) (ls : LenS n s) (hn : n < k) (q1 : Can q.1) (q3 : Can q.2.2) (l1 : q.1.2.length ≤ m) (l2 : q.2.1.length ≤ m) (l3 : q.2.2.2.length ≤ m) (hm : m < k) (hk : k < 1000000) :
    ref24_Diff.f k s q = some (diffS s q) := by
  have htx := ls.tx; have hun := ls.un; have hse := ls.se
  have key : ∀ (n' i : Nat) (x : List Txn) (y : List Dot), i ≤ s.1.length → s.1.length < n' + i → x.length ≤ i → y.length ≤ i → ref24_Diff.l3 k n' (i : Int) s q [] [] [] x [] y =
      some (x ++ (s.1.drop i).filter (fun t => !memB q.1 t.1), (overU s.2.1 q.2.1, y ++ ((s.1.drop i).map (·.1)).filter fun x => memB s.2.2.2.1 x && !memB q.2.2 x)) := by
    intro n'
    induction n' with
    | zero => intro i x y h h'; omega
    | succ n' ih =>
      intro i x y h h' hx hy
      rw [ref24_Diff.l3_eq]
      by_cases hi : i < s.1.length
      · have e3 : iadd .i64 (i : Int) 1 = ((i + 1 : Nat) : Int) := iadd_nat (by omega)
        rw [List.drop_eq_getElem_cons hi]
        have g1 := rhas_is k q.1 (s.1[i]).1 (by omega) hk q1.rt
        have g2 := rhas_is k s.2.2.2.1 (s.1[i]).1 (by omega) hk hs.se.rt
        have g3 := rhas_is k q.2.2 (s.1[i]).1 (by omega) hk q3.rt
        have bt : bnot true = false := rfl
        have bf : bnot false = true := rfl
        simp only [ilt_nat, inL_nat, natOf_nat, hi, decide_true, br_true, rd_at' (e := tTxn) hi, g1, g2, g3, bnd_some, e3, room1 (show x.length < 4000000 by omega), room1 (show y.length < 4000000 by omega), List.filter_cons, List.map_cons]
        have r1 := ih (i + 1) (app x (s.1[i] :: [])) (app y (s.1[i].1 :: [])) (by omega) (by omega) (by simp [app]; omega) (by simp [app]; omega)
        have r2 := ih (i + 1) (app x (s.1[i] :: [])) y (by omega) (by omega) (by simp [app]; omega) (by omega)
        have r3 := ih (i + 1) x (app y (s.1[i].1 :: [])) (by omega) (by omega) (by omega) (by simp [app]; omega)
        have r4 := ih (i + 1) x y (by omega) (by omega) (by omega) (by omega)
        cases memB q.1 (s.1[i]).1 <;> cases memB s.2.2.2.1 (s.1[i]).1 <;> cases memB q.2.2 (s.1[i]).1 <;> simp only [bt, bf, br_true, br_false, r1, r2, r3, r4] <;> simp [app]
      · simp only [ilt_nat, hi, decide_false, br_false, rover_is k s.2.1 q.2.1 (by omega) (by omega) hk, bnd_some]
        rw [List.drop_eq_nil_of_le (by omega)]; simp
  rw [ref24_Diff.f_eq]
  exact key k 0 [] [] (by omega) (by omega) (Nat.le_refl _) (Nat.le_refl _)
/-! ### Peers -/
structure OKP (m : Nat) (p : Peers) : Prop where
  n16 : p.2.1 ≤ 16
  len : p.2.2.length = 16
  can : ∀ a ∈ p.2.2, CanK a ∧ LenK m a
theorem LenK.mono {n m : Nat} {a : Know} (h : LenK n a) (hnm : n ≤ m) : LenK m a := ⟨Nat.le_trans h.kn hnm, Nat.le_trans h.un hnm, Nat.le_trans h.se hnm⟩
theorem OKP.mono {n m : Nat} {p : Peers} (h : OKP n p) (hnm : n ≤ m) : OKP m p := ⟨h.n16, h.len, fun a ha => ⟨(h.can a ha).1, (h.can a ha).2.mono hnm⟩⟩
def otherP (p : Peers) (i : Int) : Bool := decide (0 ≤ i) && (decide (i < p.2.1) && decide (¬ i = p.1))
def emptyK : Know := ((zarr 16 0, []), ([], (zarr 16 0, [])))
theorem emptyK_can : CanK emptyK := ⟨empty_can, CanU.nil, empty_can⟩
theorem emptyK_len (m : Nat) : LenK m emptyK := ⟨Nat.zero_le _, Nat.zero_le _, Nat.zero_le _⟩
theorem other_is (k : Nat) (i : Int) (p : Peers) : peer_Peers_other.f k i p = some (otherP p i, p) := by
  rw [peer_Peers_other.f_eq]
  simp only [ile_dec, ilt_dec, br_dec, ieq_dec, bnot_dec]
  unfold otherP
  by_cases h1 : 0 ≤ i <;> by_cases h2 : i < p.2.1 <;> simp [h1, h2]
theorem rother_is (k : Nat) (i : Int) (p : Peers) : ref29_Peers_Other.f k i p = some (otherP p i, p) := by
  rw [ref29_Peers_Other.f_eq]
  simp only [ile_dec, ilt_dec, br_dec, ieq_dec, bnot_dec]
  unfold otherP
  by_cases h1 : 0 ≤ i <;> by_cases h2 : i < p.2.1 <;> simp [h1, h2]
theorem other_spec {m : Nat} {p : Peers} (hp : OKP m p) {i : Int} (h : otherP p i = true) : 0 ≤ i ∧ i < 16 ∧ inB i 16 = true ∧ natOf i < p.2.2.length := by
  simp only [otherP, Bool.and_eq_true, decide_eq_true_eq] at h
  have := hp.n16; have := hp.len
  refine ⟨h.1, by omega, inB16 h.1 (by omega), ?_⟩
  show i.toNat < _; omega
theorem rdP {m : Nat} {p : Peers} (hp : OKP m p) (j : Nat) : CanK (rd tKnow p.2.2 j) ∧ LenK m (rd tKnow p.2.2 j) := by
  by_cases hj : j < p.2.2.length
  · rw [rd_at' (e := tKnow) hj]; exact hp.can _ (List.getElem_mem hj)
  · have : rd tKnow p.2.2 j = emptyK := by
      unfold rd; rw [List.getD_eq_getElem?_getD, List.getElem?_eq_none (by omega)]; rfl
    rw [this]; exact ⟨emptyK_can, emptyK_len m⟩
def hearP (p : Peers) (i : Int) (a : Know) : Peers := (p.1, (p.2.1, upd p.2.2 (natOf i) (joinK (rd tKnow p.2.2 (natOf i)) a)))
theorem hearP_ok {m n : Nat} {p : Peers} (hp : OKP m p) {i : Int} {a : Know} (ha : CanK a) (la : LenK n a) : OKP (m + n) (hearP p i a) := by
  refine ⟨hp.n16, by show (List.set _ _ _).length = 16; rw [List.length_set]; exact hp.len, fun x hx => ?_⟩
  obtain ⟨c, l⟩ := rdP hp (natOf i)
  rcases List.mem_or_eq_of_mem_set hx with h | h
  · exact ⟨(hp.can x h).1, (hp.can x h).2.mono (by omega)⟩
  · rw [h]; exact ⟨joinK_can c ha, joinK_len c ha l la⟩
def clearP (p : Peers) : Peers := (p.1, (p.2.1, zarr 16 emptyK))
theorem clearP_ok {m : Nat} {p : Peers} (hp : OKP m p) : OKP m (clearP p) :=
  ⟨hp.n16, rfl, fun x hx => by
    have : x = emptyK := List.eq_of_mem_replicate hx
    rw [this]; exact ⟨emptyK_can, emptyK_len m⟩⟩
def ofP (p : Peers) (i : Int) : Know := if otherP p i then rd tKnow p.2.2 (natOf i) else emptyK
theorem ofP_ok {m : Nat} {p : Peers} (hp : OKP m p) (i : Int) : CanK (ofP p i) ∧ LenK m (ofP p i) := by
  unfold ofP
  split
  · exact rdP hp _
  · exact ⟨emptyK_can, emptyK_len m⟩
theorem of_is' (k : Nat) {m : Nat} {p : Peers} (hp : OKP m p) (i : Int) : peer_Peers_Of.f k i p = some (ofP p i, p) ∧ ref29_Peers_Of.f k i p = some (ofP p i, p) := by
  have bt : bnot true = false := rfl
  have bf : bnot false = true := rfl
  rw [peer_Peers_Of.f_eq, ref29_Peers_Of.f_eq, other_is, rother_is]
  simp only [bnd_some]
  unfold ofP
  cases h : otherP p i with
  | false => rw [bf]; exact ⟨rfl, rfl⟩
  | true =>
    obtain ⟨_, _, h3, _⟩ := other_spec hp h
    rw [bt, h3]; exact ⟨rfl, rfl⟩
theorem heard_both (k : Nat) {m : Nat} {p : Peers} (hp : OKP m p) (i : Int) (a : Know) (v1 : a.1.1.length = 16) (v2 : a.2.2.1.length = 16) {n : Nat} (la : LenK n a) (hmn : m + n < k) (hk : 5000 < k) (hk2 : k < 1000000) :
    ∃ (e : Int) (q : Peers), peer_Peers_Heard.f k i a p = some (e, q) ∧ ref29_Peers_Hear.f k i a p = some (e, q) ∧ OKP (m + n) q ∧ ((otherP p i = true ∧ CanK a ∧ e = 0 ∧ q = hearP p i a) ∨ (e = 2 ∧ q = p)) := by
  have bt : bnot true = false := rfl
  have bf : bnot false = true := rfl
  have h17 : 17 < k := by omega
  rw [peer_Peers_Heard.f_eq, ref29_Peers_Hear.f_eq, other_is, rother_is]
  simp only [bnd_some]
  cases h : otherP p i with
  | false => rw [bf]; exact ⟨2, p, rfl, rfl, hp.mono (by omega), .inr ⟨rfl, rfl⟩⟩
  | true =>
    rw [bt]
    simp only [br_false]
    obtain ⟨b, g1, g2, hb⟩ := rightK_both k a v1 v2 (by have := la.un; omega) hk hk2
    rw [g1, g2]
    simp only [bnd_some]
    cases b with
    | false => rw [bf]; exact ⟨2, p, rfl, rfl, hp.mono (by omega), .inr ⟨rfl, rfl⟩⟩
    | true =>
      have ha := hb rfl
      obtain ⟨_, _, h3, _⟩ := other_spec hp h
      obtain ⟨c, l⟩ := rdP hp (natOf i)
      rw [bt, h3, djoin_is k _ a c ha l la hmn h17 hk2, rdjoin_is k _ a c ha l la hmn h17 hk2]
      exact ⟨0, hearP p i a, rfl, rfl, hearP_ok hp ha la, .inl ⟨trivial, ha, rfl, rfl⟩⟩
theorem forget_is (k : Nat) (p : Peers) : peer_Peers_Forget.f k p = some ((), clearP p) := by
  rw [peer_Peers_Forget.f_eq]
  have : inS 0 16 16 = true := rfl
  rw [this]; rfl
def offerP (p : Peers) (s : Sta) (i : Int) : Ty.D tMessage × Int :=
  if otherP p i then ((1, (p.1, (i, (diffS s (rd tKnow p.2.2 (natOf i)), emptyK)))), 0) else ((0, (0, (0, (([], ([], [])), emptyK)))), 2)
theorem offer_both (k : Nat) {m : Nat} {p : Peers} (hp : OKP m p) (i : Int) (s : Sta) {n : Nat} (hs : CanS s) (ls : LenS n s) (hn : n < k) (hm : m < k) (h3 : 3 ≤ k) (hk2 : k < 1000000) :
    peer_Peers_Offer.f k s i p = some (offerP p s i, p) ∧ ref29_Peers_Offer.f k s i p = some (offerP p s i, p) := by
  have bt : bnot true = false := rfl
  have bf : bnot false = true := rfl
  rw [peer_Peers_Offer.f_eq, ref29_Peers_Offer.f_eq, other_is, rother_is]
  simp only [bnd_some]
  unfold offerP
  cases h : otherP p i with
  | false => rw [bf]; exact ⟨rfl, rfl⟩
  | true =>
    obtain ⟨_, _, h4, _⟩ := other_spec hp h
    obtain ⟨c, l⟩ := rdP hp (natOf i)
    rw [bt, h4, diff_is k s _ h3 hs ls hn c.kn c.un c.se l.kn l.un l.se hm hk2, rdiff_is k s _ hs ls hn c.kn c.se l.kn l.un l.se hm hk2]
    exact ⟨rfl, rfl⟩
def agreesP (p : Peers) (d : Dot) (n : Int) : Bool := (List.range p.2.1.toNat).all fun j => decide ((j : Int) = p.1) || decide (getU (rd tKnow p.2.2 j).2.1 d = n)
theorem range_all_step {p : Nat → Bool} {N i : Nat} (h : i < N) : ((List.range N).drop i).all p = (p i && ((List.range N).drop (i + 1)).all p) := by
  have := all_step (xs := List.range N) (i := i) (by simpa using h) p
  rw [this]; simp
theorem agrees_is (k : Nat) {m : Nat} {p : Peers} (hp : OKP m p) (d : Dot) (n : Int) (h17 : 17 < k) (hm : m < k) (hk2 : k < 1000000) : peer_Peers_Agrees.f k d n p = some (agreesP p d n, p) := by
  have hN : p.2.1.toNat ≤ 16 := by have := hp.n16; omega
  have hmax : ∀ i : Nat, ilt (i : Int) p.2.1 = decide (i < p.2.1.toNat) := fun i => by unfold ilt; exact decide_eq_decide.2 ⟨fun h => by omega, fun h => by omega⟩
  have key : ∀ (q i : Nat), i ≤ p.2.1.toNat → p.2.1.toNat < q + i → peer_Peers_All_peer_Peers_Agrees_1.l4 k q p.2.1 (i : Int) p d n = some (((List.range p.2.1.toNat).drop i).all (fun j => decide ((j : Int) = p.1) || decide (getU (rd tKnow p.2.2 j).2.1 d = n)), (p, (d, n))) := by
    intro q
    induction q with
    | zero => intro i h h'; omega
    | succ q ih =>
      intro i h h'
      rw [peer_Peers_All_peer_Peers_Agrees_1.l4_eq, hmax]
      by_cases hi : i < p.2.1.toNat
      · obtain ⟨c, l⟩ := rdP hp i
        have e3 : iadd .i64 (i : Int) 1 = ((i + 1 : Nat) : Int) := iadd_nat (by omega)
        have e4 : inB (i : Int) 16 = true := by rw [inB_nat]; exact decide_eq_true (by omega)
        rw [range_all_step hi, e3, e4, natOf_nat, peer_Peers_Agrees_1.f_eq, tget_is k _ d (by omega) (by have := l.un; omega) hk2 c.un, decide_eq_true hi]
        simp only [bnd_some, br_true, ieq_dec, bnot_dec, br_dec]
        by_cases h1 : (i : Int) = p.1
        · rw [if_neg (by simp [h1]), ih (i + 1) (by omega) (by omega), decide_eq_true h1]; simp
        · rw [if_pos h1, decide_eq_false h1]
          by_cases h2 : getU (rd tKnow p.2.2 i).2.1 d = n
          · rw [if_neg (by simp [h2]), ih (i + 1) (by omega) (by omega), decide_eq_true h2]; simp
          · rw [if_pos h2, decide_eq_false h2]; rfl
      · rw [decide_eq_false hi, List.drop_eq_nil_of_le (by simp; omega)]; rfl
  rw [peer_Peers_Agrees.f_eq, peer_Peers_All_peer_Peers_Agrees_1.f_eq]
  rw [show peer_Peers_All_peer_Peers_Agrees_1.l4 k k p.2.1 0 p d n = _ from key k 0 (by omega) (by omega)]
  rfl
theorem ragrees_is (k : Nat) {m : Nat} {p : Peers} (hp : OKP m p) (d : Dot) (n : Int) (h17 : 17 < k) (hm : m < k) (hk2 : k < 1000000) : ref29_Peers_Agrees.f k d n p = some (agreesP p d n, p) := by
  have hN : p.2.1.toNat ≤ 16 := by have := hp.n16; omega
  have hmax : ∀ i : Nat, ilt (i : Int) p.2.1 = decide (i < p.2.1.toNat) := fun i => by unfold ilt; exact decide_eq_decide.2 ⟨fun h => by omega, fun h => by omega⟩
  have key : ∀ (q i : Nat), i ≤ p.2.1.toNat → p.2.1.toNat < q + i → ref29_Peers_Agrees.l2 k q n (i : Int) d p = some (((List.range p.2.1.toNat).drop i).all (fun j => decide ((j : Int) = p.1) || decide (getU (rd tKnow p.2.2 j).2.1 d = n)), p) := by
    intro q
    induction q with
    | zero => intro i h h'; omega
    | succ q ih =>
      intro i h h'
      rw [ref29_Peers_Agrees.l2_eq, hmax]
      by_cases hi : i < p.2.1.toNat
      · obtain ⟨c, l⟩ := rdP hp i
        have e3 : iadd .i64 (i : Int) 1 = ((i + 1 : Nat) : Int) := iadd_nat (by omega)
        have e4 : inB (i : Int) 16 = true := by rw [inB_nat]; exact decide_eq_true (by omega)
        rw [range_all_step hi, e3, e4, natOf_nat, rget_is k _ d (by have := l.un; omega) hk2, decide_eq_true hi]
        simp only [bnd_some, br_true, ieq_dec, bnot_dec, br_dec]
        by_cases h1 : (i : Int) = p.1
        · rw [if_neg (by simp [h1]), ih (i + 1) (by omega) (by omega), decide_eq_true h1]; simp
        · rw [if_pos h1, decide_eq_false h1]
          by_cases h2 : getU (rd tKnow p.2.2 i).2.1 d = n
          · rw [if_neg (by simp [h2]), ih (i + 1) (by omega) (by omega), decide_eq_true h2]; simp
          · rw [if_pos h2, decide_eq_false h2]; rfl
      · rw [decide_eq_false hi, List.drop_eq_nil_of_le (by simp; omega)]; rfl
  rw [ref29_Peers_Agrees.f_eq]
  exact key k 0 (by omega) (by omega)
/-! ### Messages held against each other -/
theorem rsameDl_is (k : Nat) (d : Dlt) {n : Nat} (ld : LenD n d) (he : ∀ t ∈ d.1, LenT k t) (hn : n < k) (hk : k < 1000000) : ref23_SameDelta.f k d d = some true := by
  rw [ref23_SameDelta.f_eq, rallTxn_is k _ _ (by have := ld.tx; omega) he hk, rsameU_is k _ _ (by have := ld.un; omega) hk, reqD k _ _ (by have := ld.se; omega) hk]
  simp only [bnd_some, decide_true, br_true]
theorem rsameM_is (k : Nat) (p : Peers) (s : Sta) (i : Int) {n : Nat} (ls : LenS n s) (he : ∀ t ∈ s.1, LenT k t) (hn : n < k) (h17 : 17 < k) (hk : k < 1000000) : ref28_Same.f k (offerP p s i).1 (offerP p s i).1 = some true := by
  have bt : bnot true = false := rfl
  rw [ref28_Same.f_eq]
  simp only [ieq_dec, decide_true, bt, br_false]
  unfold offerP
  split
  · have h1 : ieq 1 1 = true := rfl
    simp only [decide_true, br_true]
    rw [rsameDl_is k (diffS s (rd tKnow p.2.2 (natOf i))) (diffS_len ls) (fun t ht => he t (List.mem_filter.1 ht).1) hn hk]; rfl
  · have h1 : decide ((0 : Int) = 1) = false := rfl
    simp only [h1, br_false]
    rw [rdsame_is k emptyK emptyK (emptyK_len 0) (by omega) hk]
    simp only [decide_true]; rfl
end Go.Proofs.YtoikjekpckhgeaaGreat
end
section
/- Chapter 29's example: it is as it is told. -/
namespace Go.Proofs.YtoikjekpckhgeaaGreat
open Pal
set_option maxRecDepth 100000 in
theorem law29_awake.is (k : Nat) : law29_awake.f (k + 40) = some true := by kernel_rfl
theorem awake29 {k : Nat} (h : 40 ≤ k) : law29_awake.f k = some true := by
  obtain ⟨q, rfl⟩ : ∃ q, k = q + 40 := ⟨k - 40, by omega⟩
  exact law29_awake.is q
end Go.Proofs.YtoikjekpckhgeaaGreat
end
section
/- The plain laws of chapter 29: PeerPlays, PeerGrows. -/
set_option linter.unusedVariables false
set_option linter.unusedSimpArgs false
namespace Go.Proofs.YtoikjekpckhgeaaGreat
open Pal
abbrev Deed := Int × (Int × (Know × (Sta × Dot)))
theorem u8_rng {a : Int} (h : Fits (.int .u8) a) : 0 ≤ a ∧ a < 256 := by
  have h : (decide (IntKind.min .u8 ≤ a) && decide (a ≤ IntKind.max .u8)) = true := h
  rw [Bool.and_eq_true, decide_eq_true_eq, decide_eq_true_eq] at h
  have h1 : IntKind.min .u8 = 0 := rfl
  have h2 : IntKind.max .u8 = 255 := rfl
  omega
theorem new_is (k : Nat) (i n : Int) (h0 : 0 ≤ i) (h1 : i < n) (h2 : n ≤ 16) : peer_New.f k i n = some (0, (i, (n, zarr 16 emptyK))) := by
  have e1 : ilt n 1 = false := decide_eq_false (by omega)
  have e2 : ilt 16 n = false := decide_eq_false (by omega)
  have e3 : ilt i 0 = false := decide_eq_false (by omega)
  have e4 : ile n i = false := decide_eq_false (by omega)
  rw [peer_New.f_eq, e1, e2, e3, e4]; rfl
theorem begun_is (k : Nat) (a0 a1 : Int) (f0 : 0 ≤ a0 ∧ a0 < 256) (f1 : 0 ≤ a1 ∧ a1 < 256) :
    ∃ p : Peers, law29_begun.f k a0 a1 = some (true, (p, p)) ∧ OKP 0 p ∧ 0 ≤ p.1 ∧ p.1 < p.2.1 := by
  rw [law29_begun.f_eq]
  have e1 : irem a1 16 = a1 % 16 := Int.tmod_eq_emod_of_nonneg f1.1
  have e2 : iwrap .i64 (a1 % 16) = a1 % 16 := wrap_i64 (by omega) (by omega)
  have e3 : iadd .i64 1 (a1 % 16) = 1 + a1 % 16 := iadd_s (by omega) (by omega) (by omega) (by omega)
  have e4 : iwrap .i64 a0 = a0 := wrap_i64 (by omega) (by omega)
  have e5 : irem a0 (1 + a1 % 16) = a0 % (1 + a1 % 16) := Int.tmod_eq_emod_of_nonneg f0.1
  rw [e1, e2, e3, e4, e5]
  obtain ⟨N, hN⟩ : ∃ N, N = 1 + a1 % 16 := ⟨_, rfl⟩
  have n1 : 1 ≤ N := by omega
  have n2 : N ≤ 16 := by omega
  rw [← hN]
  have m0 : 0 ≤ a0 % N := Int.emod_nonneg _ (by omega)
  have m1 : a0 % N < N := Int.emod_lt_of_pos _ (by omega)
  have z : ieq N 0 = false := by rw [ieq_dec]; exact decide_eq_false (by omega)
  rw [z, new_is k _ N m0 m1 n2]
  refine ⟨(a0 % N, (N, zarr 16 emptyK)), rfl, ⟨n2, rfl, fun x hx => ?_⟩, m0, m1⟩
  have : x = emptyK := List.eq_of_mem_replicate hx
  rw [this]; exact ⟨emptyK_can, emptyK_len 0⟩
/-- What a deed of which is asked is. -/
structure OKX (k : Nat) (x : Deed) : Prop where
  v1 : x.2.2.1.1.1.length = 16
  v2 : x.2.2.1.2.2.1.length = 16
  lk : LenK 100 x.2.2.1
  can : CanS x.2.2.2.1
  ls : LenS 100 x.2.2.2.1
  each : ∀ t ∈ x.2.2.2.1.1, LenT k t
theorem short_is (k : Nat) (x : Ty.D tDeed) (fx : Fits tDeed x) (hk : 5000 < k) (hk2 : k < 1000000) : ∃ b, law29_short.f k x = some b ∧ (b = true → OKX k x) := by
  rw [law29_short.f_eq]
  obtain ⟨b1, g1, i1⟩ := shortK_is k x.2.2.1
  rw [g1]
  simp only [bnd_some]
  cases b1 with
  | false => exact ⟨false, rfl, fun h => by cases h⟩
  | true =>
    obtain ⟨b2, g2, i2⟩ := goodS_is k x.2.2.2.1 fx.2.2.2.1 hk hk2
    rw [g2]
    refine ⟨b2, rfl, fun h => ?_⟩
    obtain ⟨c1, c2, _⟩ := i2 h
    exact ⟨fx.2.2.1.1.1.1, fx.2.2.1.2.2.1.1, i1 rfl, c1, c2.len, fun t ht => (c2.each t ht).lenT (by omega)⟩
theorem does_is (k : Nat) {m : Nat} {p : Peers} (hp : OKP m p) {x : Deed} (hx : OKX k x) (hm : m + 100 < k) (hk : 5000 < k) (hk2 : k < 1000000) :
    ∃ q : Peers, law29_does.f k x p p = some (true, (q, q)) ∧ OKP (m + 100) q ∧ (x.1 = 3 ∨ q = p ∨ (otherP p x.2.1 = true ∧ CanK x.2.2.1 ∧ q = hearP p x.2.1 x.2.2.1)) ∧ q.1 = p.1 ∧ q.2.1 = p.2.1 := by
  have bt : bnot true = false := rfl
  have ii : ∀ e : Int, ieq e e = true := fun e => by rw [ieq_dec]; exact decide_eq_true rfl
  have hear : ∃ q : Peers, (bnd (peer_Peers_Heard.f k x.2.1 x.2.2.1 p) fun r0 => bnd (ref29_Peers_Hear.f k x.2.1 x.2.2.1 p) fun r1 => some ((ieq r0.1 r1.1), (r0.2, r1.2))) = some (true, (q, q)) ∧ OKP (m + 100) q ∧
      (x.1 = 3 ∨ q = p ∨ (otherP p x.2.1 = true ∧ CanK x.2.2.1 ∧ q = hearP p x.2.1 x.2.2.1)) ∧ q.1 = p.1 ∧ q.2.1 = p.2.1 := by
    obtain ⟨e, q, g1, g2, g3, g4⟩ := heard_both k hp x.2.1 x.2.2.1 hx.v1 hx.v2 hx.lk hm hk hk2
    rw [g1, g2]
    simp only [bnd_some, ii]
    refine ⟨q, rfl, g3, ?_, ?_, ?_⟩
    · rcases g4 with ⟨h1, h2, _, h4⟩ | ⟨_, h⟩
      · exact .inr (.inr ⟨h1, h2, h4⟩)
      · exact .inr (.inl h)
    · rcases g4 with ⟨_, _, _, h4⟩ | ⟨_, h⟩
      · rw [h4]; rfl
      · rw [h]
    · rcases g4 with ⟨_, _, _, h4⟩ | ⟨_, h⟩
      · rw [h4]; rfl
      · rw [h]
  rw [law29_does.f_eq]
  simp only [ieq_dec, br_dec]
  simp only [ieq_dec] at hear
  by_cases h0 : x.1 = 0
  · rw [if_pos h0, if_pos h0]; exact hear
  rw [if_neg h0]
  by_cases h1 : x.1 = 1
  · rw [if_pos h1, if_pos h1]; exact hear
  rw [if_neg h1]
  by_cases h2 : x.1 = 2
  · rw [if_pos h2]; exact hear
  rw [if_neg h2]
  by_cases h3 : x.1 = 3
  · rw [if_pos h3, forget_is]
    exact ⟨clearP p, rfl, (clearP_ok hp).mono (by omega), .inl h3, rfl, rfl⟩
  rw [if_neg h3]
  have same : ∀ {y : Option (Bool × (Peers × Peers))}, y = some (true, (p, p)) → ∃ q : Peers, y = some (true, (q, q)) ∧ OKP (m + 100) q ∧ (x.1 = 3 ∨ q = p ∨ (otherP p x.2.1 = true ∧ CanK x.2.2.1 ∧ q = hearP p x.2.1 x.2.2.1)) ∧ q.1 = p.1 ∧ q.2.1 = p.2.1 :=
    fun h => ⟨p, h, hp.mono (by omega), .inr (.inl rfl), rfl, rfl⟩
  by_cases h4 : x.1 = 4
  · rw [if_pos h4]
    obtain ⟨g1, g2⟩ := offer_both k hp x.2.1 x.2.2.2.1 hx.can hx.ls (by omega) (by omega) (by omega) hk2
    rw [g1, g2]
    simp only [bnd_some]
    rw [rsameM_is k p x.2.2.2.1 x.2.1 hx.ls hx.each (by omega) (by omega) hk2]
    simp only [bnd_some, br_true, decide_true]
    exact same rfl
  rw [if_neg h4]
  by_cases h5 : x.1 = 5
  · rw [if_pos h5]
    obtain ⟨g1, g2⟩ := of_is' k hp x.2.1
    rw [g1, g2]
    simp only [bnd_some]
    rw [rdsame_is k _ _ (ofP_ok hp x.2.1).2 (by omega) hk2]
    simp only [bnd_some, decide_true]
    exact same rfl
  rw [if_neg h5]
  by_cases h6 : x.1 = 6
  · rw [if_pos h6, agrees_is k hp x.2.2.2.2 x.2.1 (by omega) (by omega) hk2, ragrees_is k hp x.2.2.2.2 x.2.1 (by omega) (by omega) hk2]
    simp only [bnd_some, deqBool, decide_true]
    exact same rfl
  rw [if_neg h6]
  exact same rfl
/-! ### PeerPlays -/
theorem plays_l (k : Nat) (hk : 5000 < k) (hk2 : k < 1000000) (l : List Deed) (fl : ∀ x ∈ l, Fits tDeed x) : ∀ (n i : Nat) (p : Peers), i ≤ l.length → i ≤ 20 → 20 < n + i → OKP (100 * i) p → law29_PeerPlays.l5 k n l (i : Int) p p = some true
  | 0, i, p, _, h, h', _ => by omega
  | n + 1, i, p, hi, h20, hn, hp => by
    have aw : law29_awake.f k = some true := awake29 (by omega)
    have bt : bnot true = false := rfl
    have bf : bnot false = true := rfl
    rw [law29_PeerPlays.l5_eq, ilt_nat, aw]
    simp only [bnd_some]
    by_cases h1 : i < l.length
    · rw [decide_eq_true h1, br_true, show ilt (i : Int) 20 = decide (i < 20) from ilt_nn i 20]
      by_cases h2 : i < 20
      · have e3 : iadd .i64 (i : Int) 1 = ((i + 1 : Nat) : Int) := iadd_nat (by omega)
        rw [decide_eq_true h2, br_true, inL_nat, decide_eq_true h1, natOf_nat, rd_at' (e := tDeed) h1, e3]
        simp only [br_true]
        obtain ⟨b, g1, g2⟩ := short_is k l[i] (fl _ (List.getElem_mem h1)) hk hk2
        rw [g1]
        simp only [bnd_some]
        cases b with
        | false => rw [bf]; rfl
        | true =>
          rw [bt]
          simp only [br_false]
          obtain ⟨q, d1, d2, _⟩ := does_is k hp (g2 rfl) (by omega) hk hk2
          rw [d1]
          simp only [bnd_some, bt, br_false]
          exact plays_l k hk hk2 l fl n (i + 1) q (by omega) (by omega) (by omega) (d2.mono (by omega))
      · rw [decide_eq_false h2]; rfl
    · rw [decide_eq_false h1]; rfl
theorem peerPlays_at (k : Nat) (hk1 : 5000 < k) (hk2 : k < 1000000) (a0 : Ty.D (.int .u8)) (f0 : Fits (.int .u8) a0) (a1 : Ty.D (.int .u8)) (f1 : Fits (.int .u8) a1) (l : Ty.D (.slc tDeed)) (fl : Fits (.slc tDeed) l) : law29_PeerPlays.f k a0 a1 l = some true := by
  obtain ⟨p, g1, g2, _⟩ := begun_is k a0 a1 (u8_rng f0) (u8_rng f1)
  rw [law29_PeerPlays.f_eq, g1]
  have bt : bnot true = false := rfl
  simp only [bnd_some, bt, br_false]
  exact plays_l k hk1 hk2 l fl.2 k 0 p (by omega) (by omega) (by omega) g2
theorem peerPlays_true (a0 : Ty.D (.int .u8)) (f0 : Fits (.int .u8) a0) (a1 : Ty.D (.int .u8)) (f1 : Fits (.int .u8) a1) (l : Ty.D (.slc tDeed)) (fl : Fits (.slc tDeed) l) : ∃ k, law29_PeerPlays.f k a0 a1 l = some true :=
  ⟨6000, peerPlays_at 6000 (by decide) (by decide) a0 f0 a1 f1 l fl⟩
/-! ### PeerGrows -/
theorem grow_k {m : Nat} {p q : Peers} {x : Deed} (hp : OKP m p) (hq : q = p ∨ (otherP p x.2.1 = true ∧ CanK x.2.2.1 ∧ q = hearP p x.2.1 x.2.2.1)) (i : Int) : joinK (ofP p i) (ofP q i) = ofP q i := by
  rcases hq with rfl | ⟨h1, h2, rfl⟩
  · exact joinK_self (ofP_ok hp i).1
  · have ho : otherP (hearP p x.2.1 x.2.2.1) i = otherP p i := rfl
    unfold ofP
    rw [ho]
    cases h3 : otherP p i with
    | false => exact joinK_self emptyK_can
    | true =>
      simp only [if_true]
      obtain ⟨_, _, _, h4⟩ := other_spec hp h1
      obtain ⟨_, _, _, h5⟩ := other_spec hp h3
      show joinK (rd tKnow p.2.2 (natOf i)) (rd tKnow (List.set p.2.2 (natOf x.2.1) _) (natOf i)) = rd tKnow (List.set p.2.2 (natOf x.2.1) _) (natOf i)
      by_cases e : natOf x.2.1 = natOf i
      · rw [rd_at' (e := tKnow) (xs := List.set p.2.2 (natOf x.2.1) _) (by rw [List.length_set]; exact h5)]
        simp only [e, List.getElem_set_self]
        exact joinK_left (rdP hp _).1 h2
      · have : rd tKnow (List.set p.2.2 (natOf x.2.1) (joinK (rd tKnow p.2.2 (natOf x.2.1)) x.2.2.1)) (natOf i) = rd tKnow p.2.2 (natOf i) := by
          rw [rd_at' (e := tKnow) (xs := List.set p.2.2 (natOf x.2.1) _) (by rw [List.length_set]; exact h5), rd_at' (e := tKnow) h5]
          rw [List.getElem_set_ne e]
        rw [this]; exact joinK_self (rdP hp _).1
theorem grows_end (k : Nat) (hk : 5000 < k) (hk2 : k < 1000000) {m : Nat} {p : Peers} (hp : OKP m p) (hm : m < k) (i : Int) :
    (bnd (ref29_Peers_Other.f k i p) fun r6 =>
      br r6.1
        (bnd (law29_awake.f k) fun r7 =>
        some r7)
        (bnd (peer_Peers_Of.f k i p) fun r8 =>
        bnd (ref24_Same.f k r8.1 (((zarr 16 0), []), ([], ((zarr 16 0), [])))) fun r9 =>
        br r9
          (bnd (law29_awake.f k) fun r10 =>
          some r10)
          (some false))) = some true := by
  have aw : law29_awake.f k = some true := awake29 (by omega)
  rw [rother_is, aw, (of_is' k hp i).1]
  simp only [bnd_some]
  cases h : otherP p i with
  | true => rfl
  | false =>
    have e : ofP p i = emptyK := by unfold ofP; rw [h]; rfl
    rw [e, show ref24_Same.f k emptyK (((zarr 16 0), []), ([], ((zarr 16 0), []))) = some true from (rdsame_is k emptyK emptyK (emptyK_len 0) (by omega) hk2).trans (by rw [decide_eq_true rfl])]
    rfl
theorem grows_l (k : Nat) (hk : 5000 < k) (hk2 : k < 1000000) (l : List Deed) (fl : ∀ x ∈ l, Fits tDeed x) (a : Int) : ∀ (n i : Nat) (p : Peers), i ≤ l.length → i ≤ 20 → 20 < n + i → OKP (100 * i) p → law29_PeerGrows.l5 k n l a (i : Int) p p = some true
  | 0, i, p, _, h, h', _ => by omega
  | n + 1, i, p, hi, h20, hn, hp => by
    have aw : law29_awake.f k = some true := awake29 (by omega)
    have bt : bnot true = false := rfl
    have bf : bnot false = true := rfl
    rw [law29_PeerGrows.l5_eq, ilt_nat]
    have he := grows_end k hk hk2 hp (by omega) a
    by_cases h1 : i < l.length
    · rw [decide_eq_true h1, br_true, show ilt (i : Int) 20 = decide (i < 20) from ilt_nn i 20]
      by_cases h2 : i < 20
      · have e3 : iadd .i64 (i : Int) 1 = ((i + 1 : Nat) : Int) := iadd_nat (by omega)
        rw [decide_eq_true h2, br_true, inL_nat, decide_eq_true h1, natOf_nat, rd_at' (e := tDeed) h1, e3]
        simp only [br_true]
        obtain ⟨b, g1, g2⟩ := short_is k l[i] (fl _ (List.getElem_mem h1)) hk hk2
        rw [g1]
        simp only [bnd_some]
        cases b with
        | false => rw [bf, aw]; rfl
        | true =>
          rw [bt]
          simp only [br_false]
          obtain ⟨q, d1, d2, d3, _⟩ := does_is k hp (g2 rfl) (by omega) hk hk2
          rw [(of_is' k hp a).1]
          simp only [bnd_some]
          rw [d1]
          simp only [bnd_some, ieq_dec, bnot_dec, br_dec]
          have ih := grows_l k hk hk2 l fl a n (i + 1) q (by omega) (by omega) (by omega) (d2.mono (by omega))
          by_cases h3 : (l[i]).1 = 3
          · rw [if_neg (by simp [h3])]; exact ih
          · rw [if_pos h3, (of_is' k d2 a).1]
            simp only [bnd_some]
            rw [rdwithin_is k _ _ (ofP_ok hp a).1 (ofP_ok d2 a).1 (ofP_ok hp a).2 (ofP_ok d2 a).2 (by omega) (by omega) hk2, grow_k hp (d3.resolve_left h3) a]
            simp only [bnd_some, decide_true, bt, br_false]
            exact ih
      · rw [decide_eq_false h2]; exact he
    · rw [decide_eq_false h1]; exact he
theorem peerGrows_at (k : Nat) (hk1 : 5000 < k) (hk2 : k < 1000000) (a0 : Ty.D (.int .u8)) (f0 : Fits (.int .u8) a0) (a1 : Ty.D (.int .u8)) (f1 : Fits (.int .u8) a1) (l : Ty.D (.slc tDeed)) (fl : Fits (.slc tDeed) l) (i : Ty.D (.int .i64)) (_ : Fits (.int .i64) i) : law29_PeerGrows.f k a0 a1 l i = some true := by
  obtain ⟨p, g1, g2, _⟩ := begun_is k a0 a1 (u8_rng f0) (u8_rng f1)
  rw [law29_PeerGrows.f_eq, g1]
  have bt : bnot true = false := rfl
  simp only [bnd_some, bt, br_false]
  exact grows_l k hk1 hk2 l fl.2 i k 0 p (by omega) (by omega) (by omega) g2
theorem peerGrows_true (a0 : Ty.D (.int .u8)) (f0 : Fits (.int .u8) a0) (a1 : Ty.D (.int .u8)) (f1 : Fits (.int .u8) a1) (l : Ty.D (.slc tDeed)) (fl : Fits (.slc tDeed) l) (i : Ty.D (.int .i64)) (_ : Fits (.int .i64) i) : ∃ k, law29_PeerGrows.f k a0 a1 l i = some true :=
  ⟨6000, peerGrows_at 6000 (by decide) (by decide) a0 f0 a1 f1 l fl i ‹_›⟩
#print axioms peerPlays_true
#print axioms peerGrows_true
end Go.Proofs.YtoikjekpckhgeaaGreat
end
section
/- The plain laws of chapter 29: PeerSettles, PeerMatrix. -/
set_option linter.unusedVariables false
set_option linter.unusedSimpArgs false
namespace Go.Proofs.YtoikjekpckhgeaaGreat
open Pal
/-! ### PeerSettles -/
theorem joinK_empty {a : Know} (ha : CanK a) : joinK emptyK a = a := by
  refine (know_eq _ _).2 ⟨?_, ?_, ?_⟩
  · exact (union_eq empty_can ha.kn).2 fun x hx => absurd hx (empty_mem x)
  · exact joinU_nil a.2.1
  · exact (union_eq empty_can ha.se).2 fun x hx => absurd hx (empty_mem x)
theorem settles {s t : Sta} {a : Know} {n m : Nat} (hs : CanS s) (ht : CanS t) (ha : CanK a) (ls : LenS n s) (lt : LenS m t) (hj : joinK a (ofS t) = ofS t) :
    CanS (mergedS t (diffS s a)) ∧ LenS (m + n) (mergedS t (diffS s a)) ∧ diffS s (ofS (mergedS t (diffS s a))) = ([], ([], [])) ∧ joinK (ofS t) (ofS (mergedS t (diffS s a))) = ofS (mergedS t (diffS s a)) := by
  have hd : CanDl (diffS s a) := diffS_can hs
  obtain ⟨c1, c2, c3⟩ := mergedS_all ht hd lt (diffS_len ls)
  obtain ⟨_, _, g3, g4, _, _⟩ := puts_all (diffS s a).1 t ht hd.tx.rt
  obtain ⟨j1, j2, j3⟩ := (know_eq _ _).1 hj
  have k1 : ∀ x, Mem a.1 x → Mem t.2.2.1 x := (union_eq ha.kn ht.kn).1 j1
  have k2 : ∀ d, getU a.2.1 d ≤ getU t.2.1 d := (joinU_eq ha.un ht.un).1 j2
  have k3 : ∀ x, Mem a.2.2 x → Mem t.2.2.2.1 x := (union_eq ha.se ht.se).1 j3
  have hov : CanU (overU s.2.1 a.2.1) := filter_can hs.un _
  have eu : (mergedS t (diffS s a)).2.1 = joinU t.2.1 (overU s.2.1 a.2.1) := by
    show joinU ((diffS s a).1.foldl putS t).2.1 _ = _
    rw [g3]; rfl
  have es : (mergedS t (diffS s a)).2.2.2.1 = unionD t.2.2.2.1 (ofD (diffD s a)) := by
    show unionD ((diffS s a).1.foldl putS t).2.2.2.1 _ = _
    rw [g4]; rfl
  obtain ⟨o1, o2, _⟩ := ofD_can (diffD s a)
  obtain ⟨p1, p2, _⟩ := unionD_can ht.se o1
  have hknow : ∀ x, Mem (mergedS t (diffS s a)).2.2.1 x ↔ Mem t.2.2.1 x ∨ (findT (diffS s a).1 x).isSome = true := fun x => by
    rw [c1.know, ← findT_is, c3, Option.isSome_or', Bool.or_eq_true, findT_is, ← ht.know]
  have hse : ∀ x, Mem (mergedS t (diffS s a)).2.2.2.1 x ↔ Mem t.2.2.2.1 x ∨ (rightD x = true ∧ x ∈ diffD s a) := fun x => by
    rw [es, p2]
    exact or_congr Iff.rfl ⟨fun h => by have := (o2 x).1 h; first | exact this | exact ⟨this.2, this.1⟩, fun h => (o2 x).2 (by first | exact h | exact ⟨h.2, h.1⟩)⟩
  refine ⟨c1, c2, ?_, ?_⟩
  · have a1 : diffT s (ofS (mergedS t (diffS s a))) = [] := List.filter_eq_nil_iff.2 fun u hu => by
      have : memB (ofS (mergedS t (diffS s a))).1 u.1 = true := by
        refine (memB_iff _ _).2 ((hknow u.1).2 ?_)
        by_cases hm : Mem a.1 u.1
        · exact .inl (k1 _ hm)
        · refine .inr ?_
          have e : findT (diffS s a).1 u.1 = (findT s.1 u.1).filter (fun v => !memB a.1 v.1) := findT_filter hs.tx _ u.1
          have hb : memB a.1 u.1 = false := by
            cases hb : memB a.1 u.1 with
            | false => rfl
            | true => exact absurd ((memB_iff _ _).1 hb) hm
          rw [e, findT_mem hs.tx hu]
          simp [Option.filter, hb]
      rw [this]; decide
    have a2 : overU s.2.1 (ofS (mergedS t (diffS s a))).2.1 = [] := List.filter_eq_nil_iff.2 fun u hu => by
      have e : (ofS (mergedS t (diffS s a))).2.1 = joinU t.2.1 (overU s.2.1 a.2.1) := eu
      rw [e, joinU_get ht.un hov, overU_get hs.un, getU_mem hs.un hu]
      intro h
      have h := of_decide_eq_true h
      have := k2 u.1
      split at h <;> omega
    have a3 : diffD s (ofS (mergedS t (diffS s a))) = [] := List.filter_eq_nil_iff.2 fun x hx => by
      cases h1 : memB s.2.2.2.1 x with
      | false => simp
      | true =>
        obtain ⟨u, hu, rfl⟩ := List.mem_map.1 hx
        have : memB (ofS (mergedS t (diffS s a))).2.2 u.1 = true := by
          refine (memB_iff _ _).2 ((hse u.1).2 ?_)
          by_cases hm : Mem a.2.2 u.1
          · exact .inl (k3 _ hm)
          · refine .inr ⟨hs.tx.rt u hu, List.mem_filter.2 ⟨hx, ?_⟩⟩
            have h2 : memB a.2.2 u.1 = false := by
              cases hb : memB a.2.2 u.1 with
              | false => rfl
              | true => exact absurd ((memB_iff _ _).1 hb) hm
            rw [h1, h2]; rfl
        rw [this]; simp
    show (diffT s _, (overU s.2.1 _, diffD s _)) = _
    rw [a1, a2, a3]
  · refine (know_eq _ _).2 ⟨?_, ?_, ?_⟩
    · exact (union_eq ht.kn c1.kn).2 fun x hx => (hknow x).2 (.inl hx)
    · show joinU t.2.1 (mergedS t (diffS s a)).2.1 = (mergedS t (diffS s a)).2.1
      rw [eu]; exact (joinU_eq ht.un (joinU_can ht.un hov)).2 fun d => by rw [joinU_get ht.un hov]; omega
    · exact (union_eq ht.se c1.se).2 fun x hx => (hse x).2 (.inl hx)
theorem heard_ok (k : Nat) {m : Nat} {p : Peers} (hp : OKP m p) (i : Int) (a : Know) (ha : CanK a) {n : Nat} (la : LenK n a) (hi : otherP p i = true) (hn : n ≤ 4096) (hmn : m + n < k) (hk : 5000 < k) (hk2 : k < 1000000) :
    peer_Peers_Heard.f k i a p = some (0, hearP p i a) ∧ OKP (m + n) (hearP p i a) := by
  have bt : bnot true = false := rfl
  obtain ⟨b, g1, g2, _⟩ := rightK_both k a ha.kn.vok.len ha.se.vok.len (by have := la.un; omega) hk hk2
  have hb : b = true := by
    have := rrightK_is k ha la hn hk hk2
    rw [g2] at this; injection this
  subst hb
  obtain ⟨_, _, h3, _⟩ := other_spec hp hi
  obtain ⟨c, l⟩ := rdP hp (natOf i)
  refine ⟨?_, hearP_ok hp ha la⟩
  rw [peer_Peers_Heard.f_eq, other_is]
  simp only [bnd_some]
  rw [hi, bt]
  simp only [br_false]
  rw [g1]
  simp only [bnd_some]
  rw [bt, h3, djoin_is k _ a c ha l la hmn (by omega) hk2]
  rfl
theorem hear_rd {m : Nat} {p : Peers} (hp : OKP m p) {i : Int} {a : Know} (hi : otherP p i = true) : rd tKnow (hearP p i a).2.2 (natOf i) = joinK (rd tKnow p.2.2 (natOf i)) a := by
  obtain ⟨_, _, _, h5⟩ := other_spec hp hi
  show rd tKnow (List.set p.2.2 (natOf i) _) (natOf i) = _
  rw [rd_at' (e := tKnow) (xs := List.set p.2.2 (natOf i) _) (by rw [List.length_set]; exact h5), List.getElem_set_self]
theorem diff_empty_len (s : Sta) (hs : CanS s) : (diffS s emptyK).1.length = s.1.length ∧ (diffS s emptyK).2.1.length = s.2.1.length := by
  constructor
  · show (s.1.filter _).length = _
    rw [List.filter_eq_self.2 fun t _ => ?_]
    have : memB emptyK.1 t.1 = false := by
      cases hb : memB emptyK.1 t.1 with
      | false => rfl
      | true => exact absurd ((memB_iff _ _).1 hb) (empty_mem t.1)
    rw [this]; rfl
  · show (s.2.1.filter _).length = _
    rw [List.filter_eq_self.2 fun u hu => ?_]
    have := ((rightU_iff u).1 (hs.un.rt u hu)).2.1
    show decide (getU [] u.1 < u.2) = true
    exact decide_eq_true (by show (0 : Int) < u.2; omega)
theorem peerSettles_at (k : Nat) (hk1 : 5000 < k) (hk2 : k < 1000000) (s : Ty.D tState) (fs : Fits tState s) (t : Ty.D tState) (ft : Fits tState t) (a : Ty.D tKnow) (fa : Fits tKnow a) : law29_PeerSettles.f k s t a = some true := by
  have aw : law29_awake.f k = some true := awake29 (by omega)
  have bt : bnot true = false := rfl
  have bf : bnot false = true := rfl
  have i0 : ieq 0 0 = true := rfl
  rw [law29_PeerSettles.f_eq, aw]
  obtain ⟨c1, g1, i1⟩ := goodS_is k s fs hk1 hk2
  rw [g1]
  simp only [bnd_some]
  cases c1 with
  | false => rw [bf]; rfl
  | true =>
  obtain ⟨hs, ss, _⟩ := i1 rfl
  obtain ⟨c2, g2, i2⟩ := goodS_is k t ft hk1 hk2
  rw [bt, g2]
  simp only [br_false, bnd_some]
  cases c2 with
  | false => rw [bf]; rfl
  | true =>
  obtain ⟨ht, st, _⟩ := i2 rfl
  obtain ⟨c3, g3, i3⟩ := goodK_is k a fa hk1 hk2
  rw [bt, g3]
  simp only [br_false, bnd_some]
  cases c3 with
  | false => rw [bf]; rfl
  | true =>
  obtain ⟨ha, la⟩ := i3 rfl
  rw [bt, ref24_Of.f_eq]
  simp only [br_false, bnd_some]
  have lt := st.len
  have ls := ss.len
  have htk : CanK (ofS t) := ⟨ht.kn, ht.un, ht.se⟩
  have ltk : LenK 100 (ofS t) := ⟨lt.kn, lt.un, lt.se⟩
  rw [show ref24_Within.f k a (t.2.2.1, (t.2.1, t.2.2.2.1)) = _ from rdwithin_is k a (ofS t) ha htk la ltk (by omega) (by omega) hk2]
  simp only [bnd_some, bnot_dec, br_dec]
  by_cases hj : joinK a (ofS t) = ofS t
  case neg => rw [if_pos hj]
  rw [if_neg (by simpa using hj), new_is k 1 4 (by decide) (by decide) (by decide)]
  simp only [bnd_some, i0, bt, br_false]
  have hp0 : OKP 0 ((1, (4, zarr 16 emptyK)) : Peers) := ⟨(by show (4 : Int) ≤ 16; decide), rfl, fun x hx => by
    have : x = emptyK := List.eq_of_mem_replicate hx
    rw [this]; exact ⟨emptyK_can, emptyK_len 0⟩⟩
  obtain ⟨h1, hp1⟩ := heard_ok k hp0 3 a ha la rfl (by decide) (by omega) hk1 hk2
  rw [h1]
  simp only [bnd_some, i0, bt, br_false]
  have o1 : otherP (hearP (1, (4, zarr 16 emptyK)) 3 a) 3 = true := rfl
  have r1 : rd tKnow (hearP (1, (4, zarr 16 emptyK)) 3 a).2.2 (natOf 3) = a := by
    rw [hear_rd hp0 rfl]
    exact joinK_empty ha
  rw [(offer_both k hp1 3 s hs ls (by omega) (by omega) (by omega) hk2).1]
  have of1 : offerP (hearP (1, (4, zarr 16 emptyK)) 3 a) s 3 = ((1, (1, (3, (diffS s a, emptyK)))), 0) := by
    unfold offerP
    rw [o1, r1]; rfl
  rw [of1]
  simp only [bnd_some]
  obtain ⟨hu, lu, hnone, hkt⟩ := settles hs ht ha ls lt hj
  rw [merged_is k t (diffS s a) (by omega) ht (diffS_can hs) lt (diffS_len ls) (by omega) hk2]
  simp only [bnd_some, i0, bt, br_false]
  generalize mergedS t (diffS s a) = u at hu lu hnone hkt ⊢
  rw [dof_is k u lu (by omega)]
  simp only [bnd_some]
  have huk : CanK (ofS u) := ⟨hu.kn, hu.un, hu.se⟩
  have luk : LenK 200 (ofS u) := ⟨lu.kn, lu.un, lu.se⟩
  obtain ⟨h2, hp2⟩ := heard_ok k hp1 3 (ofS u) huk luk o1 (by decide) (by omega) hk1 hk2
  rw [h2]
  simp only [bnd_some, i0, bt, br_false]
  have r2 : rd tKnow (hearP (hearP (1, (4, zarr 16 emptyK)) 3 a) 3 (ofS u)).2.2 (natOf 3) = ofS u := by
    rw [hear_rd hp1 o1, r1]
    rw [← hkt, ← joinK_assoc ha htk huk, hj]
  rw [(offer_both k hp2 3 s hs ls (by omega) (by omega) (by omega) hk2).1]
  have of2 : offerP (hearP (hearP (1, (4, zarr 16 emptyK)) 3 a) 3 (ofS u)) s 3 = ((1, (1, (3, (([], ([], [])), emptyK)))), 0) := by
    unfold offerP
    rw [show otherP (hearP (hearP (1, (4, zarr 16 emptyK)) 3 a) 3 (ofS u)) 3 = true from rfl, r2, hnone]; rfl
  rw [of2]
  simp only [bnd_some]
  rw [forget_is]
  simp only [bnd_some]
  have hp3 := clearP_ok hp2
  rw [(offer_both k hp3 3 s hs ls (by omega) (by omega) (by omega) hk2).1]
  have of3 : offerP (clearP (hearP (hearP (1, (4, zarr 16 emptyK)) 3 a) 3 (ofS u))) s 3 = ((1, (1, (3, (diffS s emptyK, emptyK)))), 0) := by
    unfold offerP
    rw [show otherP (clearP (hearP (hearP (1, (4, zarr 16 emptyK)) 3 a) 3 (ofS u))) 3 = true from rfl]; rfl
  rw [of3]
  simp only [bnd_some, i0, br_true, delta_Empty.f_eq]
  have e0 : ieq (iadd .i64 (iadd .i64 (ilen ([] : List Txn)) (ilen ([] : List (Dot × Int)))) (ilen ([] : List Dot))) 0 = true := rfl
  obtain ⟨l1, l2⟩ := diff_empty_len s hs
  rw [e0, ieq_len, ieq_len, decide_eq_true l1, decide_eq_true l2]
  rfl
theorem peerSettles_true (s : Ty.D tState) (fs : Fits tState s) (t : Ty.D tState) (ft : Fits tState t) (a : Ty.D tKnow) (fa : Fits tKnow a) : ∃ k, law29_PeerSettles.f k s t a = some true :=
  ⟨6000, peerSettles_at 6000 (by decide) (by decide) s fs t ft a fa⟩
/-! ### PeerMatrix -/
abbrev Mat := List Vec
def vmin (v u : Vec) : Vec := (List.range 16).map fun (i : Nat) => min (vat v (i : Int)) (vat u (i : Int))
theorem vmin_len (v u : Vec) : (vmin v u).length = 16 := by simp [vmin]
theorem vmin_at (v u : Vec) (r : Int) (h0 : 0 ≤ r) (h1 : r < 16) : vat (vmin v u) r = min (vat v r) (vat u r) := by
  obtain ⟨a, rfl⟩ := Int.eq_ofNat_of_zero_le h0
  rw [vat_get (by rw [vmin_len]; omega)]
  simp [vmin]
def dnTo (v u m : Vec) (i : Nat) : Prop := m.length = 16 ∧ ∀ r : Int, 0 ≤ r → r < 16 → vat m r = if r < (i : Int) then min (vat v r) (vat u r) else vat v r
theorem dnTo_end {v u m : Vec} (h : dnTo v u m 16) : m = vmin v u := vec_ext h.1 (vmin_len v u) fun r h0 h1 => by rw [h.2 r h0 h1, if_pos (by omega), vmin_at v u r h0 h1]
theorem dnTo_step {v u m : Vec} {i : Nat} {x : Int} (h : dnTo v u m i) (hi : i < 16) (hx : x = min (vat v (i : Int)) (vat u (i : Int))) : dnTo v u (upd m i x) (i + 1) := by
  refine ⟨by simp [upd, h.1], fun r h0 h1 => ?_⟩
  have := vat_upd (v := m) (r := (i : Int)) (x := x) (by omega) (by rw [h.1]; omega) r h0
  rw [natOf_nat] at this
  rw [this]
  by_cases e : r = (i : Int)
  · rw [if_pos e, if_pos (by omega), hx, e]
  · rw [if_neg e, h.2 r h0 h1]
    by_cases e2 : r < (i : Int)
    · rw [if_pos e2, if_pos (by omega)]
    · rw [if_neg e2, if_neg (by omega)]
theorem imin_is (a b : Int) : imin a b = min a b := by unfold imin; split <;> omega
theorem meet_l (k : Nat) (v u za : Vec) : ∀ (n i : Nat) (m : Vec), i ≤ 16 → 16 < n + i → dnTo v u m i → vec_both_vec_Meet_1.l2 k n (i : Int) m u za = some (vmin v u)
  | 0, i, _, h, h', _ => by omega
  | n + 1, i, m, h, h', hm => by
    rw [vec_both_vec_Meet_1.l2_eq, natOf_nat]
    have e1 : ilt (i : Int) 16 = decide (i < 16) := ilt_nn i 16
    rw [e1, inB_nat]
    by_cases hi : i < 16
    · have h1 : rd (.int .i64) m i = vat m (i : Int) := rfl
      have h2 : rd (.int .i64) u i = vat u (i : Int) := rfl
      have h3 : vat m (i : Int) = vat v (i : Int) := by rw [hm.2 i (by omega) (by omega), if_neg (by omega)]
      rw [h1, h2, h3, vec_Meet_1.f_eq, imin_is, iadd_nat (by omega)]
      simp only [hi, decide_true, br_true, bnd_some]
      exact meet_l k v u za n (i + 1) _ (by omega) (by omega) (dnTo_step hm hi rfl)
    · have : i = 16 := by omega
      subst this
      simp only [Nat.lt_irrefl, decide_false, br_false]
      rw [dnTo_end hm]
theorem meet_is (k : Nat) (v u : Vec) (hv : v.length = 16) (hk : 17 < k) : vec_Meet.f k v u = some (vmin v u) := by
  rw [vec_Meet.f_eq, vec_both_vec_Meet_1.f_eq]
  have := meet_l k v u (zarr 16 0) k 0 v (by omega) (by omega) ⟨hv, fun r h0 _ => by rw [if_neg (by omega)]⟩
  rw [show vec_both_vec_Meet_1.l2 k k 0 v u (zarr 16 0) = _ from this]; rfl
/-- The rows: of each one what it is known to have, one's own for oneself. -/
def rowP (p : Peers) (a : Know) (j : Nat) : Vec := if (j : Int) = p.1 then a.1.1 else (rd tKnow p.2.2 j).1.1
theorem rowP_ok {m : Nat} {p : Peers} (hp : OKP m p) {a : Know} (ha : CanK a) (j : Nat) : VOk (rowP p a j) := by
  unfold rowP
  split
  · exact ha.kn.vok
  · exact (rdP hp j).1.kn.vok
theorem vmax_zero {v : Vec} (hv : VOk v) : vmax (zarr 16 0) v = v := vec_ext (vmax_len _ _) hv.len fun r h0 h1 => by
  rw [vmax_at _ _ r h0 h1, vat0 r h0 h1]; have := hv.lo r h0 h1; omega
theorem learn_is (k : Nat) (M : Mat) (i : Nat) (v : Vec) (hM : M.length = 16) (hi : i < 16) (h0 : M[i]'(by omega) = zarr 16 0) (hv : VOk v) (hk : 17 < k) : matrix_Matrix_Learn.f k M (i : Int) v = some (M.set i v) := by
  rw [matrix_Matrix_Learn.f_eq, matrix_replica.f_eq]
  have e1 : ile 0 (i : Int) = true := decide_eq_true (by omega)
  have e2 : ilt (i : Int) 16 = true := decide_eq_true (by omega)
  have e3 : inB (i : Int) 16 = true := by rw [inB_nat]; exact decide_eq_true hi
  rw [e1, e2, e3, natOf_nat, rd_at' (e := tVec) (by rw [hM]; exact hi), h0, join_is k _ v rfl hk, vmax_zero hv]
  rfl
theorem matrix_is (k : Nat) {m : Nat} {p : Peers} (hp : OKP m p) {a : Know} (ha : CanK a) (hk : 17 < k) (hk2 : k < 1000000) :
    ∃ M : Mat, peer_Peers_Matrix.f k a p = some (M, p) ∧ M.length = 16 ∧ ∀ j : Nat, (j : Int) < p.2.1 → M[j]? = some (rowP p a j) := by
  have hN : p.2.1.toNat ≤ 16 := by have := hp.n16; omega
  have hmax : ∀ i : Nat, ilt (i : Int) p.2.1 = decide (i < p.2.1.toNat) := fun i => by unfold ilt; exact decide_eq_decide.2 ⟨fun h => by omega, fun h => by omega⟩
  have key : ∀ (q i : Nat) (z M : Mat), i ≤ p.2.1.toNat → p.2.1.toNat < q + i → M.length = 16 → (∀ j : Nat, j < i → M[j]? = some (rowP p a j)) → (∀ j : Nat, i ≤ j → j < 16 → M[j]? = some (zarr 16 0)) →
      ∃ M' : Mat, peer_Peers_Matrix.l6 k q p.2.1 (i : Int) a z M p = some (M', p) ∧ M'.length = 16 ∧ ∀ j : Nat, j < p.2.1.toNat → M'[j]? = some (rowP p a j) := by
    intro q
    induction q with
    | zero => intro i _ _ h h'; omega
    | succ q ih =>
      intro i z M h h' hM h1 h2
      rw [peer_Peers_Matrix.l6_eq, hmax]
      by_cases hi : i < p.2.1.toNat
      · have e3 : iadd .i64 (i : Int) 1 = ((i + 1 : Nat) : Int) := iadd_nat (by omega)
        have e4 : inB (i : Int) 16 = true := by rw [inB_nat]; exact decide_eq_true (by omega)
        have hz : M[i]'(by omega) = zarr 16 0 := by
          have := h2 i (Nat.le_refl _) (by omega)
          rw [List.getElem?_eq_getElem (by omega)] at this; injection this
        have next := ih (i + 1) z (M.set i (rowP p a i)) (by omega) (by omega) (by rw [List.length_set]; exact hM) (fun j hj => by
          by_cases e : j = i
          · subst e; rw [List.getElem?_set_self (by omega)]
          · rw [List.getElem?_set_ne (Ne.symm e)]; exact h1 j (by omega)) (fun j hj hj2 => by
          rw [List.getElem?_set_ne (by omega)]; exact h2 j (by omega) hj2)
        rw [decide_eq_true hi, e3, e4, natOf_nat, ieq_dec]
        simp only [br_true, br_dec]
        have hr := rowP_ok hp ha i
        by_cases e : (i : Int) = p.1
        · have er : rowP p a i = a.1.1 := by unfold rowP; rw [if_pos e]
          rw [if_pos e, learn_is k M i a.1.1 hM (by omega) hz (er ▸ hr) hk]
          rw [er] at next
          exact next
        · have er : rowP p a i = (rd tKnow p.2.2 i).1.1 := by unfold rowP; rw [if_neg e]
          rw [if_neg e, learn_is k M i _ hM (by omega) hz (er ▸ hr) hk]
          rw [er] at next
          exact next
      · have : i = p.2.1.toNat := by omega
        subst this
        rw [decide_eq_false hi]
        exact ⟨M, rfl, hM, h1⟩
  obtain ⟨M, g1, g2, g3⟩ := key k 0 (zarr 16 (zarr 16 0)) (zarr 16 (zarr 16 0)) (by omega) (by omega) rfl (fun j hj => by omega) (fun j _ hj => by
    rw [List.getElem?_eq_getElem (by show j < (zarr 16 (zarr 16 0)).length; simp [zarr]; omega)]
    exact congrArg some (List.getElem_replicate ..))
  rw [peer_Peers_Matrix.f_eq]
  exact ⟨M, g1, g2, fun j hj => g3 j (by omega)⟩
theorem row_is (k : Nat) {M : Mat} {j : Nat} {v : Vec} (hj : j < 16) (h : M[j]? = some v) : matrix_Matrix_Row.f k M (j : Int) = some v := by
  rw [matrix_Matrix_Row.f_eq, matrix_replica.f_eq]
  have e1 : ile 0 (j : Int) = true := decide_eq_true (by omega)
  have e2 : ilt (j : Int) 16 = true := decide_eq_true (by omega)
  have e3 : inB (j : Int) 16 = true := by rw [inB_nat]; exact decide_eq_true hj
  have bt : bnot true = false := rfl
  have hl := (List.getElem?_eq_some_iff.1 h).1
  have : rd tVec M j = v := by rw [rd_at' (e := tVec) hl]; rw [List.getElem?_eq_getElem hl] at h; injection h
  rw [e1, e2, e3, natOf_nat, this]
  simp only [br_true, bnd_some, bt, br_false]
theorem frontier_is (k : Nat) {M : Mat} {N : Nat} (row : Nat → Vec) (hM : M.length = 16) (h1 : 1 ≤ N) (h16 : N ≤ 16) (hr : ∀ j, j < N → M[j]? = some (row j)) (hv : ∀ j, (row j).length = 16) (hk : 17 < k) (hk2 : k < 1000000) :
    ∃ F : Vec, matrix_Matrix_Frontier.f k M (N : Int) = some F ∧ F.length = 16 ∧ ∀ (r x : Int), 0 ≤ r → r < 16 → (x ≤ vat F r ↔ ∀ j, j < N → x ≤ vat (row j) r) := by
  have hrd : ∀ j, j < N → rd tVec M j = row j := fun j hj => by
    have h := hr j hj
    have hl := (List.getElem?_eq_some_iff.1 h).1
    rw [rd_at' (e := tVec) hl]; rw [List.getElem?_eq_getElem hl] at h; injection h
  have key : ∀ (q i : Nat) (z F : Vec), i ≤ N - 1 → N - 1 < q + i → F.length = 16 → (∀ (r x : Int), 0 ≤ r → r < 16 → (x ≤ vat F r ↔ ∀ j, j < i + 1 → x ≤ vat (row j) r)) →
      ∃ F' : Vec, matrix_Matrix_Frontier.l5 k q 1 (N : Int) (idif (N : Int) 1) (i : Int) M z F = some F' ∧ F'.length = 16 ∧ ∀ (r x : Int), 0 ≤ r → r < 16 → (x ≤ vat F' r ↔ ∀ j, j < N → x ≤ vat (row j) r) := by
    intro q
    induction q with
    | zero => intro i _ _ h h'; omega
    | succ q ih =>
      intro i z F h h' hF hx
      rw [matrix_Matrix_Frontier.l5_eq]
      have ed : idif (N : Int) 1 = ((N - 1 : Nat) : Int) := by show (N : Int) - 1 = _; omega
      rw [ed, show ilt (i : Int) ((N - 1 : Nat) : Int) = decide (i < N - 1) from ilt_nn i (N - 1)]
      by_cases hi : i < N - 1
      · have e3 : iadd .i64 (i : Int) 1 = ((i + 1 : Nat) : Int) := iadd_nat (by omega)
        have e4 : inI (i : Int) ((N - 1 : Nat) : Int) = true := by
          show (decide ((0 : Int) ≤ (i : Int)) && decide ((i : Int) < ((N - 1 : Nat) : Int))) = true
          rw [decide_eq_true (by omega), decide_eq_true (by omega)]; rfl
        have e5 : natOf (isum 1 (i : Int)) = i + 1 := by show ((1 : Int) + (i : Int)).toNat = _; omega
        rw [decide_eq_true hi, e4, e5, hrd (i + 1) (by omega), meet_is k F _ hF hk, e3, ← ed]
        simp only [br_true, bnd_some]
        refine ih (i + 1) z _ (by omega) (by omega) (vmin_len _ _) fun r x h0 h1 => ?_
        rw [vmin_at _ _ r h0 h1]
        have := hx r x h0 h1
        constructor
        · intro hh j hj
          by_cases e : j = i + 1
          · subst e; omega
          · exact this.1 (by omega) j (by omega)
        · intro hh
          have h2 := this.2 fun j hj => hh j (by omega)
          have h3 := hh (i + 1) (by omega)
          omega
      · have : i = N - 1 := by omega
        subst this
        rw [decide_eq_false hi]
        refine ⟨F, rfl, hF, fun r x h0 h1 => ?_⟩
        rw [hx r x h0 h1, show N - 1 + 1 = N by omega]
  rw [matrix_Matrix_Frontier.f_eq]
  have e1 : ilt (N : Int) 1 = false := decide_eq_false (by omega)
  have e2 : ilt 16 (N : Int) = false := decide_eq_false (by omega)
  have e3 : inB 0 16 = true := rfl
  have e4 : inS 1 (N : Int) 16 = true := by
    show (decide ((0 : Int) ≤ 1) && decide ((1 : Int) ≤ (N : Int)) && decide ((N : Int) ≤ 16)) = true
    rw [decide_eq_true (show (1 : Int) ≤ (N : Int) by omega), decide_eq_true (show (N : Int) ≤ 16 by omega)]; rfl
  rw [e1, e2, e3, e4, show rd tVec M (natOf 0) = row 0 from hrd 0 (by omega)]
  simp only [br_true, br_false]
  exact key k 0 _ (row 0) (by omega) (by omega) (hv 0) fun r x h0 h1 => ⟨fun h j hj => (by have e : j = 0 := (by omega); rw [e]; exact h), fun h => h 0 (by omega)⟩
theorem matrix_end (k : Nat) (hk : 5000 < k) (hk2 : k < 1000000) {m : Nat} {p : Peers} (hp : OKP m p) (h1 : 1 ≤ p.2.1) {a : Know} (ha : CanK a) (d : Dot) {M : Mat} (hM : M.length = 16) (hrow : ∀ j : Nat, (j : Int) < p.2.1 → M[j]? = some (rowP p a j)) :
    ∀ (n i : Nat) (b : Bool), i ≤ p.2.1.toNat → p.2.1.toNat < n + i → (b = true ↔ ∀ j, j < i → memB (rowP p a j, []) d = true) → law29_PeerMatrix.l15 k n b (i : Int) a d M p p = some true
  | 0, i, b, h, h', _ => by omega
  | n + 1, i, b, h, h', hb => by
    have aw : law29_awake.f k = some true := awake29 (by omega)
    have bt : bnot true = false := rfl
    have hN : p.2.1.toNat ≤ 16 := by have := hp.n16; omega
    have hmax : ilt (i : Int) p.2.1 = decide (i < p.2.1.toNat) := by unfold ilt; exact decide_eq_decide.2 ⟨fun h => by omega, fun h => by omega⟩
    rw [law29_PeerMatrix.l15_eq, hmax]
    by_cases hi : i < p.2.1.toNat
    · have e3 : iadd .i64 (i : Int) 1 = ((i + 1 : Nat) : Int) := iadd_nat (by omega)
      have e4 : inB (i : Int) 16 = true := by rw [inB_nat]; exact decide_eq_true (by omega)
      have hr := row_is k (by omega) (hrow i (by omega))
      have hv := rowP_ok hp ha i
      have ih := matrix_end k hk hk2 hp h1 ha d hM hrow n (i + 1)
      have hh : ref06_Has.f k (rowP p a i, []) d = some (memB (rowP p a i, []) d) := rhas_is k (rowP p a i, []) d (by show (0 : Nat) < k; omega) hk2 (fun e he => by cases he)
      have step : (br b (bnd (ref06_Has.f k (rowP p a i, []) d) fun r1 => law29_PeerMatrix.l15 k n r1 ((i + 1 : Nat) : Int) a d M p p) (law29_PeerMatrix.l15 k n false ((i + 1 : Nat) : Int) a d M p p)) = some true := by
        cases b with
        | true =>
          rw [br_true, hh, bnd_some]
          refine ih _ (by omega) (by omega) ⟨fun hm j hj => ?_, fun hm => hm i (by omega)⟩
          by_cases e : j = i
          · subst e; exact hm
          · exact hb.1 rfl j (by omega)
        | false =>
          rw [br_false]
          exact ih false (by omega) (by omega) ⟨fun hm => (by cases hm), fun hm => (by have := hb.2 (fun j hj => hm j (by omega)); cases this)⟩
      have eq : ∀ v : Vec, deq tVec v v = true := fun v => by rw [deqV]; exact decide_eq_true rfl
      rw [decide_eq_true hi, e3, e4, hr, natOf_nat, ieq_dec]
      simp only [br_true, br_dec, bnd_some]
      by_cases e : (i : Int) = p.1
      · have er : rowP p a i = a.1.1 := by unfold rowP; rw [if_pos e]
        rw [if_pos e]
        rw [er] at step ⊢
        rw [eq, bt, br_false]; exact step
      · have er : rowP p a i = (rd tKnow p.2.2 i).1.1 := by unfold rowP; rw [if_neg e]
        rw [if_neg e]
        rw [er] at step ⊢
        rw [eq, bt, br_false]; exact step
    · have hiN : i = p.2.1.toNat := by omega
      rw [decide_eq_false hi, br_false, matrix_Matrix_Stable.f_eq]
      obtain ⟨F, f1, f2, f3⟩ := frontier_is k (M := M) (N := p.2.1.toNat) (rowP p a) hM (by omega) hN (fun j hj => hrow j (by omega)) (fun j => (rowP_ok hp ha j).len) (by omega) hk2
      have eN : ((p.2.1.toNat : Nat) : Int) = p.2.1 := by omega
      rw [eN] at f1
      rw [f1]
      simp only [bnd_some]
      rw [vhas_is k F d]
      simp only [bnd_some, deqBool, aw]
      have : (rightD d && decide (d.2 ≤ vat F d.1)) = b := by
        rw [Bool.eq_iff_iff, hb, Bool.and_eq_true, decide_eq_true_iff]
        have hm : ∀ j, memB (rowP p a j, []) d = true ↔ rightD d = true ∧ d.2 ≤ vat (rowP p a j) d.1 := fun j => by simp [memB]
        constructor
        · rintro ⟨g1, g2⟩ j hj
          obtain ⟨r0, r1, _⟩ := (show 0 ≤ d.1 ∧ d.1 < 16 ∧ _ from of_decide_eq_true g1)
          exact (hm j).2 ⟨g1, (f3 d.1 d.2 r0 r1).1 g2 j (by omega)⟩
        · intro hh
          have g1 := ((hm 0).1 (hh 0 (by omega))).1
          obtain ⟨r0, r1, _⟩ := (show 0 ≤ d.1 ∧ d.1 < 16 ∧ _ from of_decide_eq_true g1)
          exact ⟨g1, (f3 d.1 d.2 r0 r1).2 fun j hj => ((hm j).1 (hh j (by omega))).2⟩
      rw [this, decide_eq_true rfl]; rfl
theorem matrix_l (k : Nat) (hk : 5000 < k) (hk2 : k < 1000000) (l : List Deed) (fl : ∀ x ∈ l, Fits tDeed x) {a : Know} (ha : CanK a) (d : Dot) : ∀ (n i : Nat) (p : Peers), i ≤ l.length → i ≤ 20 → 20 < n + i → OKP (100 * i) p → 1 ≤ p.2.1 → law29_PeerMatrix.l7 k n l (i : Int) a d p p = some true
  | 0, i, p, _, h, h', _, _ => by omega
  | n + 1, i, p, hi, h20, hn, hp, hp1 => by
    have aw : law29_awake.f k = some true := awake29 (by omega)
    have bt : bnot true = false := rfl
    have bf : bnot false = true := rfl
    have fin : (bnd (peer_Peers_Matrix.f k a p) fun r3 => law29_PeerMatrix.l15 k k true 0 a d r3.1 r3.2 p) = some true := by
      obtain ⟨M, g1, g2, g3⟩ := matrix_is k hp ha (by omega) hk2
      rw [g1]
      exact matrix_end k hk hk2 hp hp1 ha d g2 g3 k 0 true (by omega) (by have := hp.n16; omega) ⟨fun _ j hj => by omega, fun _ => rfl⟩
    rw [law29_PeerMatrix.l7_eq, ilt_nat]
    by_cases h1 : i < l.length
    · rw [decide_eq_true h1, br_true, show ilt (i : Int) 20 = decide (i < 20) from ilt_nn i 20]
      by_cases h2 : i < 20
      · have e3 : iadd .i64 (i : Int) 1 = ((i + 1 : Nat) : Int) := iadd_nat (by omega)
        rw [decide_eq_true h2, br_true, inL_nat, decide_eq_true h1, natOf_nat, rd_at' (e := tDeed) h1, e3]
        simp only [br_true]
        obtain ⟨b, g1, g2⟩ := short_is k l[i] (fl _ (List.getElem_mem h1)) hk hk2
        rw [g1]
        simp only [bnd_some]
        cases b with
        | false => rw [bf, aw]; rfl
        | true =>
          rw [bt]
          simp only [br_false]
          obtain ⟨q, d1, d2, _, _, d5⟩ := does_is k hp (g2 rfl) (by omega) hk hk2
          rw [d1]
          simp only [bnd_some]
          have hq1 : 1 ≤ q.2.1 := Eq.mpr (congrArg (fun z : Int => 1 ≤ z) d5) hp1
          have hq2 : OKP (100 * (i + 1)) q := d2.mono (by omega)
          exact matrix_l k hk hk2 l fl ha d n (i + 1) q (by omega) (by omega) (by omega) hq2 hq1
      · rw [decide_eq_false h2, br_false]; exact fin
    · rw [decide_eq_false h1, br_false]; exact fin
theorem peerMatrix_at (k : Nat) (hk1 : 5000 < k) (hk2 : k < 1000000) (a0 : Ty.D (.int .u8)) (f0 : Fits (.int .u8) a0) (a1 : Ty.D (.int .u8)) (f1 : Fits (.int .u8) a1) (l : Ty.D (.slc tDeed)) (fl : Fits (.slc tDeed) l) (a : Ty.D tKnow) (fa : Fits tKnow a) (d : Ty.D tDot) : law29_PeerMatrix.f k a0 a1 l a d = some true := by
  obtain ⟨p, g1, g2, g3, g4⟩ := begun_is k a0 a1 (u8_rng f0) (u8_rng f1)
  have bt : bnot true = false := rfl
  have bf : bnot false = true := rfl
  rw [law29_PeerMatrix.f_eq, g1]
  simp only [bnd_some, bt, br_false]
  obtain ⟨c, h1, h2⟩ := goodK_is k a fa hk1 hk2
  rw [h1]
  simp only [bnd_some]
  cases c with
  | false => rw [bf, awake29 (by omega)]; rfl
  | true =>
    rw [bt]
    exact matrix_l k hk1 hk2 l fl.2 (h2 rfl).1 d k 0 p (by omega) (by omega) (by omega) g2 (by omega)
theorem peerMatrix_true (a0 : Ty.D (.int .u8)) (f0 : Fits (.int .u8) a0) (a1 : Ty.D (.int .u8)) (f1 : Fits (.int .u8) a1) (l : Ty.D (.slc tDeed)) (fl : Fits (.slc tDeed) l) (a : Ty.D tKnow) (fa : Fits tKnow a) (d : Ty.D tDot) (_ : Fits tDot d) : ∃ k, law29_PeerMatrix.f k a0 a1 l a d = some true :=
  ⟨6000, peerMatrix_at 6000 (by decide) (by decide) a0 f0 a1 f1 l fl a fa d⟩
#print axioms peerSettles_true
#print axioms peerMatrix_true
end Go.Proofs.YtoikjekpckhgeaaGreat
end
