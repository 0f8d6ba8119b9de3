/- Unions, and what is within what. -/
import Derived.Test.YtennedlpmacicaaDoRun5
namespace Go.Proofs.Ytennedlpmacicaa
open Pal
def vmax (v u : Vec) : Vec := (List.range 16).map fun (i : Nat) => max (vat v (i : Int)) (vat u (i : Int))
theorem vmax_len (v u : Vec) : (vmax v u).length = 16 := by simp [vmax]
theorem vmax_at (v u : Vec) (r : Int) (h0 : 0 ≤ r) (h1 : r < 16) : vat (vmax v u) r = max (vat v r) (vat u r) := by
  obtain ⟨a, rfl⟩ := Int.eq_ofNat_of_zero_le h0
  rw [vat_get (by rw [vmax_len]; omega)]
  simp [vmax]
theorem vmax_ok {v u : Vec} (hv : VOk v) (hu : VOk u) : VOk (vmax v u) :=
  ⟨vmax_len v u, fun r h0 h1 => by rw [vmax_at v u r h0 h1]; have := hv.lo r h0 h1; omega, fun r h0 h1 => by rw [vmax_at v u r h0 h1]; have := hv.hi r h0 h1; have := hu.hi r h0 h1; omega⟩
/-- Up to i the greater ones, then those of the first. -/
def upTo (v u m : Vec) (i : Nat) : Prop := m.length = 16 ∧ ∀ r : Int, 0 ≤ r → r < 16 → vat m r = if r < (i : Int) then max (vat v r) (vat u r) else vat v r
theorem upTo_end {v u m : Vec} (h : upTo v u m 16) : m = vmax v u := vec_ext h.1 (vmax_len v u) fun r h0 h1 => by rw [h.2 r h0 h1, if_pos (by omega), vmax_at v u r h0 h1]
theorem upTo_step {v u m : Vec} {i : Nat} {x : Int} (h : upTo v u m i) (hi : i < 16) (hx : x = max (vat v (i : Int)) (vat u (i : Int))) : upTo v u (upd m i x) (i + 1) := by
  refine ⟨by simp [upd, h.1], fun r h0 h1 => ?_⟩
  have := vat_upd (v := m) (r := (i : Int)) (x := x) (by omega) (by rw [h.1]; omega) r h0
  rw [natOf_nat] at this
  rw [this]
  by_cases e : r = (i : Int)
  · rw [if_pos e, if_pos (by omega), hx, e]
  · rw [if_neg e, h.2 r h0 h1]
    by_cases e2 : r < (i : Int)
    · rw [if_pos e2, if_pos (by omega)]
    · rw [if_neg e2, if_neg (by omega)]
theorem upTo_skip {v u m : Vec} {i : Nat} (h : upTo v u m i) (hx : vat v (i : Int) = max (vat v (i : Int)) (vat u (i : Int))) : upTo v u m (i + 1) := by
  refine ⟨h.1, fun r h0 h1 => ?_⟩
  rw [h.2 r h0 h1]
  by_cases e : r = (i : Int)
  · subst e; rw [if_neg (by omega), if_pos (by omega)]; exact hx
  · by_cases e2 : r < (i : Int)
    · rw [if_pos e2, if_pos (by omega)]
    · rw [if_neg e2, if_neg (by omega)]
theorem imax_is (a b : Int) : imax a b = max a b := by unfold imax; split <;> omega
theorem both_l (k : Nat) (v u za : Vec) : ∀ (n i : Nat) (m : Vec), i ≤ 16 → 16 < n + i → upTo v u m i → vec_both_119.l2 k n (i : Int) m u za = some (vmax v u)
  | 0, i, _, h, h', _ => by omega
  | n + 1, i, m, h, h', hm => by
    rw [vec_both_119.l2_eq, natOf_nat]
    have e1 : ilt (i : Int) 16 = decide (i < 16) := ilt_nn i 16
    rw [e1, inB_nat]
    by_cases hi : i < 16
    · have h1 : rd (.int .i64) m i = vat m (i : Int) := rfl
      have h2 : rd (.int .i64) u i = vat u (i : Int) := rfl
      have h3 : vat m (i : Int) = vat v (i : Int) := by rw [hm.2 i (by omega) (by omega), if_neg (by omega)]
      rw [h1, h2, h3, vec_Join_1.f_eq, imax_is, iadd_nat (by omega)]
      simp only [hi, decide_true, br_true, bnd_some]
      exact both_l k v u za n (i + 1) _ (by omega) (by omega) (upTo_step hm hi rfl)
    · have : i = 16 := by omega
      subst this
      simp only [Nat.lt_irrefl, decide_false, br_false]
      rw [upTo_end hm]
theorem join_is (k : Nat) (v u : Vec) (hv : v.length = 16) (hk : 17 < k) : vec_Join.f k v u = some (vmax v u) := by
  rw [vec_Join.f_eq, vec_both_119.f_eq]
  have := both_l k v u (zarr 16 0) k 0 v (by omega) (by omega) ⟨hv, fun r h0 _ => by rw [if_neg (by omega)]⟩
  rw [show vec_both_119.l2 k k 0 v u (zarr 16 0) = _ from this]; rfl
theorem rjoin_l (k : Nat) (v u za : Vec) : ∀ (n i : Nat) (m : Vec), i ≤ 16 → 16 < n + i → upTo v u m i → ref05_Join.l3 k n (i : Int) v u za m = some (vmax v u)
  | 0, i, _, h, h', _ => by omega
  | n + 1, i, m, h, h', hm => by
    rw [ref05_Join.l3_eq, natOf_nat]
    have e1 : ilt (i : Int) 16 = decide (i < 16) := ilt_nn i 16
    rw [e1, inB_nat]
    by_cases hi : i < 16
    · have h1 : rd (.int .i64) v i = vat v (i : Int) := rfl
      have h2 : rd (.int .i64) u i = vat u (i : Int) := rfl
      rw [h1, h2, iadd_nat (by omega), ilt_dec]
      simp only [hi, decide_true, br_true]
      by_cases hlt : vat v (i : Int) < vat u (i : Int)
      · simp only [hlt, decide_true, br_true]
        exact rjoin_l k v u za n (i + 1) _ (by omega) (by omega) (upTo_step hm hi (by omega))
      · simp only [hlt, decide_false, br_false]
        exact rjoin_l k v u za n (i + 1) _ (by omega) (by omega) (upTo_skip hm (by omega))
    · have : i = 16 := by omega
      subst this
      simp only [Nat.lt_irrefl, decide_false, br_false]
      rw [upTo_end hm]
theorem rjoin_is (k : Nat) (v u : Vec) (hv : v.length = 16) (hk : 17 < k) : ref05_Join.f k v u = some (vmax v u) := by
  rw [ref05_Join.f_eq]
  exact rjoin_l k v u (zarr 16 0) k 0 v (by omega) (by omega) ⟨hv, fun r h0 _ => by rw [if_neg (by omega)]⟩
/-! ### Unions -/
def unionD (s t : DSet) : DSet := mk (vmax s.1 t.1) (isort dotLt (s.2 ++ t.2))
theorem unionD_can {s t : DSet} (hs : Can s) (ht : Can t) : Can (unionD s t) ∧ (∀ x, Mem (unionD s t) x ↔ Mem s x ∨ Mem t x) ∧ (unionD s t).2.length ≤ s.2.length + t.2.length := by
  have hmem : ∀ d, d ∈ isort dotLt (s.2 ++ t.2) ↔ d ∈ s.2 ∨ d ∈ t.2 := fun d => by rw [(isort_perm dotLt _).mem_iff, List.mem_append]
  obtain ⟨h1, h2, h3, _⟩ := mk_can (vmax_ok hs.vok ht.vok) (isort dotLt (s.2 ++ t.2)) (fun d hd => ((hmem d).1 hd).elim (hs.rt d) (ht.rt d)) (isort_sorted dotLt_swo _)
  refine ⟨h1, fun x => ?_, ?_⟩
  · rw [show Mem (unionD s t) x ↔ _ from h2 x, hmem]
    constructor
    · rintro ⟨a, b | b | b⟩
      · obtain ⟨q0, q1, _, _⟩ := (rightD_iff x).1 a
        rw [vmax_at _ _ x.1 q0 q1] at b
        rcases (by omega : x.2 ≤ vat s.1 x.1 ∨ x.2 ≤ vat t.1 x.1) with h | h
        · exact .inl ⟨a, .inl h⟩
        · exact .inr ⟨a, .inl h⟩
      · exact .inl ⟨a, .inr b⟩
      · exact .inr ⟨a, .inr b⟩
    · rintro (⟨a, b⟩ | ⟨a, b⟩)
      · obtain ⟨q0, q1, _, _⟩ := (rightD_iff x).1 a
        refine ⟨a, b.imp (fun h => ?_) .inl⟩
        rw [vmax_at _ _ x.1 q0 q1]; omega
      · obtain ⟨q0, q1, _, _⟩ := (rightD_iff x).1 a
        refine ⟨a, b.imp (fun h => ?_) .inr⟩
        rw [vmax_at _ _ x.1 q0 q1]; omega
  · refine Nat.le_trans h3 ?_
    rw [(isort_perm dotLt _).length_eq, List.length_append]; exact Nat.le_refl _
theorem concat_is (k : Nat) (a b : List Dot) (ha : a.length ≤ 1000000) (hb : b.length ≤ 1000000) (hk : 3 ≤ k) : slices_Concat_api_Dot_api_Dot.f k (a :: (b :: [])) = some (a ++ b) := by
  obtain ⟨q, rfl⟩ : ∃ q, k = q + 1 + 1 + 1 := ⟨k - 3, by omega⟩
  rw [slices_Concat_api_Dot_api_Dot.f_eq, slices_Concat_api_Dot_api_Dot.l3_eq, slices_Concat_api_Dot_api_Dot.l3_eq, slices_Concat_api_Dot_api_Dot.l3_eq]
  rw [slices_Concat_api_Dot_api_Dot.l11_eq, slices_Concat_api_Dot_api_Dot.l11_eq, slices_Concat_api_Dot_api_Dot.l11_eq]
  have i1 : iadd .i64 0 1 = 1 := rfl
  have i2 : iadd .i64 1 1 = 2 := rfl
  have l2 : ilen (a :: (b :: [])) = 2 := rfl
  have r0 : rd (.slc tDot) (a :: (b :: [])) (natOf 0) = a := rfl
  have r1 : rd (.slc tDot) (a :: (b :: [])) (natOf 1) = b := rfl
  have n0 : inL 0 (a :: (b :: [])) = true := rfl
  have n1 : inL 1 (a :: (b :: [])) = true := rfl
  have t0 : ilt 0 2 = true := rfl
  have t1 : ilt 1 2 = true := rfl
  have t2 : ilt 2 2 = false := rfl
  have s0 : iadd .i64 0 (ilen a) = ilen a := by rw [iadd_s (by omega) (by omega) (by unfold ilen; omega) (by unfold ilen; omega), Int.zero_add]
  have s1 : iadd .i64 (ilen a) (ilen b) = ilen a + ilen b := iadd_s (by unfold ilen; omega) (by unfold ilen; omega) (by unfold ilen; omega) (by unfold ilen; omega)
  have g0 : ilt (ilen a) 0 = false := decide_eq_false (by unfold ilen; omega)
  have g1 : ilt (ilen a + ilen b) 0 = false := decide_eq_false (by unfold ilen; omega)
  have g2 : ilt 4294967296 (ilen a + ilen b) = false := decide_eq_false (by unfold ilen; omega)
  have m0 : room ([] : List Int) ([] : List Int) = true := rfl
  have m1 : room ([] : List Dot) a = true := decide_eq_true (by show 0 + a.length ≤ 4294967296; omega)
  have m2 : room (app ([] : List Dot) a) b = true := decide_eq_true (by show a.length + b.length ≤ 4294967296; omega)
  rw [i1, l2, i2, r0, r1, n0, n1, t0, t1, t2, s0, s1, g0, g1, g2, m0, m1, m2]
  simp only [br_true, br_false, app, List.nil_append]
theorem union_is (k : Nat) (s t : DSet) (hs : Can s) (ht : Can t) (hl : s.2.length + t.2.length < k) (h17 : 17 < k) (hk : k < 1000000) : dots_Union.f k s t = some (unionD s t) := by
  have hmem : ∀ d, d ∈ isort dotLt (s.2 ++ t.2) ↔ d ∈ s.2 ∨ d ∈ t.2 := fun d => by rw [(isort_perm dotLt _).mem_iff, List.mem_append]
  rw [dots_Union.f_eq, concat_is k _ _ (by omega) (by omega) (by omega)]
  simp only [bnd_some]
  have e : room ([] : List Int) (s.2 ++ t.2) = true := by simp [room]; omega
  rw [e, join_is k _ _ hs.vok.len h17]
  simp only [br_true, bnd_some]
  rw [made_is k _ (by rw [(isort_perm dotLt _).length_eq, List.length_append]; exact hl) hk (fun d hd => ((hmem d).1 hd).elim (hs.rt d) (ht.rt d)) (isort_sorted dotLt_swo _) _ (vmax_ok hs.vok ht.vok)]
  rfl
theorem puts_can : ∀ (l : List Dot) (s : DSet), Can s → (∀ d ∈ l, rightD d = true) → Can (l.foldl putD s) ∧ (∀ x, Mem (l.foldl putD s) x ↔ Mem s x ∨ x ∈ l) ∧ (l.foldl putD s).2.length ≤ s.2.length + l.length
  | [], s, hs, _ => ⟨hs, fun x => by simp, Nat.le_refl _⟩
  | d :: l, s, hs, hr => by
    obtain ⟨a, b, c⟩ := putD_can hs d
    obtain ⟨p, q, r⟩ := puts_can l (putD s d) a (fun e he => hr e (List.mem_cons_of_mem _ he))
    refine ⟨p, fun x => ?_, by simp only [List.length_cons]; show ((d :: l).foldl putD s).2.length ≤ _; simp only [List.foldl_cons]; omega⟩
    show Mem (l.foldl putD (putD s d)) x ↔ _
    rw [q, b, List.mem_cons]
    have hd := hr d (by simp)
    constructor
    · rintro ((h | ⟨_, h⟩) | h)
      · exact .inl h
      · exact .inr (.inl h)
      · exact .inr (.inr h)
    · rintro (h | h | h)
      · exact .inl (.inl h)
      · exact .inl (.inr ⟨hd, h⟩)
      · exact .inr h
theorem runion_l (k : Nat) (t : DSet) (hk : k < 1000000) (htl : t.2.length < 1000000) (hr : ∀ d ∈ t.2, rightD d = true) (za : Vec) (zb : List Dot) : ∀ (n i : Nat) (s : DSet), Can s → i ≤ t.2.length → t.2.length < n + i → s.2.length + (t.2.length - i) < k → ref06_Union.l3 k n (i : Int) t za zb s = some ((t.2.drop i).foldl putD s)
  | 0, i, _, _, h, h', _ => by omega
  | n + 1, i, s, hs, h, h', hl => by
    rw [ref06_Union.l3_eq, ilt_nat, inL_nat, natOf_nat]
    by_cases hi : i < t.2.length
    · rw [rd_at' (e := tDot) hi, iadd_nat (by omega), rput_is k s t.2[i] (by omega) hk hs, List.drop_eq_getElem_cons hi]
      simp only [hi, decide_true, br_true, bnd_some, List.foldl_cons]
      obtain ⟨a, _, c⟩ := putD_can hs t.2[i]
      exact runion_l k t hk htl hr za zb n (i + 1) _ a (by omega) (by omega) (by omega)
    · rw [List.drop_of_length_le (by omega)]
      simp only [hi, decide_false, br_false, List.foldl_nil]
theorem runion_is (k : Nat) (s t : DSet) (hs : Can s) (ht : Can t) (hl : s.2.length + t.2.length < k) (h17 : 17 < k) (hk : k < 1000000) : ref06_Union.f k s t = some (unionD s t) := by
  obtain ⟨h1, h2, h3, _⟩ := mk_can (vmax_ok hs.vok ht.vok) s.2 hs.rt (hs.srt.imp dotLt_asym)
  obtain ⟨p, q, _⟩ := puts_can t.2 _ h1 ht.rt
  obtain ⟨u1, u2, _⟩ := unionD_can hs ht
  rw [ref06_Union.f_eq, rjoin_is k _ _ hs.vok.len h17]
  simp only [bnd_some]
  rw [filled_is k (vmax s.1 t.1, s.2) (by show s.2.length < k; omega) hk hs.rt hs.srt (vmax_ok hs.vok ht.vok)]
  simp only [bnd_some]
  have := runion_l k t hk (by omega) ht.rt (zarr 16 0) [] k 0 _ h1 (by omega) (by omega) (by omega)
  rw [List.drop_zero] at this
  rw [show ref06_Union.l3 k k 0 t (zarr 16 0) [] (mk (vmax s.1 t.1) s.2) = _ from this]
  congr 1
  refine can_unique p u1 fun x => ?_
  rw [q, h2, u2]
  constructor
  · rintro (⟨a, b | b⟩ | b)
    · obtain ⟨q0, q1, _, _⟩ := (rightD_iff x).1 a
      rw [vmax_at _ _ x.1 q0 q1] at b
      rcases (by omega : x.2 ≤ vat s.1 x.1 ∨ x.2 ≤ vat t.1 x.1) with h | h
      · exact .inl ⟨a, .inl h⟩
      · exact .inr ⟨a, .inl h⟩
    · exact .inl ⟨a, .inr b⟩
    · exact .inr ⟨ht.rt x b, .inr b⟩
  · rintro (⟨a, b⟩ | ⟨a, b⟩)
    · obtain ⟨q0, q1, _, _⟩ := (rightD_iff x).1 a
      refine .inl ⟨a, b.imp (fun h => ?_) id⟩
      rw [vmax_at _ _ x.1 q0 q1]; omega
    · obtain ⟨q0, q1, _, _⟩ := (rightD_iff x).1 a
      rcases b with h | h
      · refine .inl ⟨a, .inl ?_⟩
        rw [vmax_at _ _ x.1 q0 q1]; omega
      · exact .inr h
/-! ### Within -/
theorem within_is (k : Nat) (s t : DSet) (hs : Can s) (ht : Can t) (hl : s.2.length + t.2.length < k) (h17 : 17 < k) (hk : k < 1000000) : dots_Within.f k s t = some (decide (unionD s t = t)) := by
  obtain ⟨_, _, u3⟩ := unionD_can hs ht
  rw [dots_Within.f_eq, union_is k s t hs ht hl h17 hk]
  simp only [bnd_some]
  rw [same_is k _ _ (by omega) hk]; rfl
theorem union_eq {s t : DSet} (hs : Can s) (ht : Can t) : unionD s t = t ↔ ∀ x, Mem s x → Mem t x := by
  obtain ⟨u1, u2, _⟩ := unionD_can hs ht
  constructor
  · intro h x hx; rw [← h]; exact (u2 x).2 (.inl hx)
  · intro h; exact can_unique u1 ht fun x => by rw [u2]; exact ⟨fun hh => hh.elim (h x) id, .inr⟩
theorem rw_l11 (k n7 : Nat) (s t : DSet) (ht : Can t) (hl : t.2.length < 1000000) (r : Nat) (hr : r < 16) : ∀ (n i : Nat), i ≤ t.2.length → t.2.length < n + i →
    ref06_Within.l11 k n7 n (r : Int) (vat t.1 (r : Int)) (i : Int) s t = br (ilt (vat t.1 (r : Int)) (vat s.1 (r : Int))) (some false) (ref06_Within.l7 k n7 ((r + 1 : Nat) : Int) s t)
  | 0, i, h, h' => by omega
  | n + 1, i, h, h' => by
    rw [ref06_Within.l11_eq, ilt_nat, inL_nat]
    by_cases hi : i < t.2.length
    · have v0 := ht.vok.lo r (by omega) (by omega)
      have v1 := ht.vok.hi r (by omega) (by omega)
      have ih := rw_l11 k n7 s t ht hl r hr n (i + 1) (by omega) (by omega)
      have e1 : iadd .i64 (i : Int) 1 = ((i + 1 : Nat) : Int) := iadd_nat (by omega)
      rw [natOf_nat, rd_at' (e := tDot) hi, e1, iadd_s (by omega) (by omega) (by omega) (by omega), ieq_dec, ieq_dec]
      simp only [hi, decide_true, br_true]
      by_cases he : t.2[i].1 = (r : Int)
      · have hg := ht.gap _ (List.getElem_mem hi)
        rw [he] at hg
        have hne : ¬ t.2[i].2 = vat t.1 (r : Int) + 1 := by omega
        simp only [he, hne, decide_true, decide_false, br_true, br_false]
        exact ih
      · simp only [he, decide_false, br_false]
        exact ih
    · simp only [hi, decide_false, br_false]
      have e1 : inB (r : Int) 16 = true := inB16 (by omega) (by omega)
      rw [e1, iadd_nat (by omega)]
      rfl
theorem rw_l7 (k : Nat) (s t : DSet) (ht : Can t) (hl : t.2.length < k) (hk : k < 1000000) : ∀ (n r : Nat), r ≤ 16 → 16 < n + r → ∃ c, ref06_Within.l7 k n (r : Int) s t = some c ∧ (c = true ↔ ∀ q : Int, (r : Int) ≤ q → q < 16 → vat s.1 q ≤ vat t.1 q)
  | 0, r, h, h' => by omega
  | n + 1, r, h, h' => by
    rw [ref06_Within.l7_eq]
    have e1 : ilt (r : Int) 16 = decide (r < 16) := ilt_nn r 16
    rw [e1, inB_nat]
    by_cases hr : r < 16
    · simp only [hr, decide_true, br_true]
      have e := rw_l11 k n s t ht (by omega) r hr k 0 (by omega) (by omega)
      rw [show ref06_Within.l11 k n k (r : Int) (rd (.int .i64) t.1 (natOf (r : Int))) 0 s t = _ from e, ilt_dec]
      obtain ⟨c, hc, hci⟩ := rw_l7 k s t ht hl hk n (r + 1) (by omega) (by omega)
      by_cases hlt : vat t.1 (r : Int) < vat s.1 (r : Int)
      · simp only [hlt, decide_true, br_true]
        exact ⟨false, rfl, ⟨fun h => (by cases h), fun h => by have := h r (Int.le_refl _) (by omega); omega⟩⟩
      · simp only [hlt, decide_false, br_false]
        refine ⟨c, hc, hci.trans ⟨fun h q h1 h2 => ?_, fun h q h1 h2 => h q (by omega) h2⟩⟩
        by_cases e : q = (r : Int)
        · subst e; omega
        · exact h q (by omega) h2
    · simp only [hr, decide_false, br_false]
      exact ⟨true, rfl, ⟨fun _ q h1 h2 => by omega, fun _ => rfl⟩⟩
theorem rw_l2 (k : Nat) (s t : DSet) (hs : Can s) (ht : Can t) (hl : t.2.length < k) (hl2 : s.2.length < k) (hk : k < 1000000) (h17 : 17 < k) : ∀ (n i : Nat), i ≤ s.2.length → s.2.length < n + i → ∃ c, ref06_Within.l2 k n (i : Int) s t = some c ∧ (c = true ↔ (∀ d ∈ s.2.drop i, Mem t d) ∧ ∀ q : Int, 0 ≤ q → q < 16 → vat s.1 q ≤ vat t.1 q)
  | 0, i, h, h' => by omega
  | n + 1, i, h, h' => by
    rw [ref06_Within.l2_eq, ilt_nat, inL_nat, natOf_nat]
    by_cases hi : i < s.2.length
    · rw [rd_at' (e := tDot) hi, iadd_nat (by omega), rhas_is k t _ hl hk ht.rt, List.drop_eq_getElem_cons hi]
      simp only [hi, decide_true, br_true, bnd_some]
      obtain ⟨c, hc, hci⟩ := rw_l2 k s t hs ht hl hl2 hk h17 n (i + 1) (by omega) (by omega)
      cases hm : memB t s.2[i] with
      | false =>
        have e : bnot false = true := rfl
        rw [e]
        exact ⟨false, rfl, ⟨fun h => (by cases h), fun h => by have := (memB_iff _ _).2 (h.1 _ (List.mem_cons_self ..)); rw [hm] at this; cases this⟩⟩
      | true =>
        have e : bnot true = false := rfl
        rw [e]
        refine ⟨c, hc, hci.trans ⟨fun h => ⟨fun d hd => ?_, h.2⟩, fun h => ⟨fun d hd => h.1 d (List.mem_cons_of_mem _ hd), h.2⟩⟩⟩
        rcases List.mem_cons.1 hd with rfl | hd
        · exact (memB_iff _ _).1 hm
        · exact h.1 d hd
    · rw [List.drop_of_length_le (by omega)]
      simp only [hi, decide_false, br_false]
      obtain ⟨c, hc, hci⟩ := rw_l7 k s t ht hl hk k 0 (by omega) (by omega)
      exact ⟨c, hc, hci.trans ⟨fun h => ⟨fun d hd => by simp at hd, h⟩, fun h => h.2⟩⟩
theorem rwithin_is (k : Nat) (s t : DSet) (hs : Can s) (ht : Can t) (hl : t.2.length < k) (hl2 : s.2.length < k) (hk : k < 1000000) (h17 : 17 < k) : ref06_Within.f k s t = some (decide (unionD s t = t)) := by
  rw [ref06_Within.f_eq]
  obtain ⟨c, hc, hci⟩ := rw_l2 k s t hs ht hl hl2 hk h17 k 0 (by omega) (by omega)
  rw [show ref06_Within.l2 k k 0 s t = _ from hc]
  congr 1
  rw [Bool.eq_iff_iff, hci, decide_eq_true_iff, union_eq hs ht, List.drop_zero]
  constructor
  · rintro ⟨h1, h2⟩ x ⟨a, b | b⟩
    · obtain ⟨q0, q1, _, _⟩ := (rightD_iff x).1 a
      exact ⟨a, .inl (Int.le_trans b (h2 x.1 q0 q1))⟩
    · exact h1 x b
  · intro h
    exact ⟨fun d hd => h d ⟨hs.rt d hd, .inr hd⟩, fun q h0 h1 => can_le hs ht h q h0 h1⟩
/-- Good ones. -/
theorem good_is (k : Nat) (s : DSet) (hl : s.1.length = 16) (hk : 5000 < k) (hk2 : k < 1000000) : ∃ b, ref06_Good.f k s = some b ∧ (b = true → Can s ∧ s.2.length ≤ 100) := by
  rw [ref06_Good.f_eq]
  have e : ile (ilen s.2) 100 = decide (s.2.length ≤ 100) := by unfold ile ilen; congr 1; exact propext ⟨fun h => by omega, fun h => by omega⟩
  rw [e]
  by_cases h : s.2.length ≤ 100
  · obtain ⟨b, hb, hbi⟩ := rr_is k s hl hk hk2
    simp only [h, decide_true, br_true, hb, bnd_some]
    exact ⟨b, rfl, fun hh => ⟨(hbi.1 hh).1, trivial⟩⟩
  · simp only [h, decide_false, br_false]
    exact ⟨false, rfl, fun h => by cases h⟩
end Go.Proofs.Ytennedlpmacicaa
