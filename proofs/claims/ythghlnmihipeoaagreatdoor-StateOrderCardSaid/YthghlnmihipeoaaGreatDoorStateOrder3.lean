/- The statement of the law StateOrder, as a tied card: for every input the law returns true, and its arguments read as they did. The listed tables hold what the program's text lays. No other conditions. -/
import Derived.KernelRfl
import Derived.Test.YthghlnmihipeoaaGreatDoorRows
import Derived.Test.YthghlnmihipeoaaGreatDoorTie
import Derived.Test.YthghlnmihipeoaaGreatDoorCards
import Derived.WalkKit
import Derived.ProofKit
import Derived.OpenShut
import Derived.ShutString
import Derived.ChangeOld
import Derived.Below
import Derived.LaidMore
import Derived.Stop.Joined
import Derived.SevenTiedAt
import Derived.Lay
import Derived.MakeChecks
import Derived.Test.YthghlnmihipeoaaGreatDoorFw1
import Derived.Test.YthghlnmihipeoaaGreatDoorFw2
import Derived.Test.YthghlnmihipeoaaGreatDoorFw3
import Derived.Test.YthghlnmihipeoaaGreatDoorStateOrder1
import Derived.Test.YthghlnmihipeoaaGreatDoorStateOrder2
set_option linter.unusedVariables false
set_option linter.unusedSimpArgs false
set_option linter.unusedSectionVars false
section
/- Unions, and what is within what. -/
namespace Go.Proofs.YthghlnmihipeoaaGreatDoor
open Pal
def vmax (v u : Vec) : Vec := (List.range 16).map fun (i : Nat) => max (vat v (i : Int)) (vat u (i : Int))
theorem vmax_len (v u : Vec) : (vmax v u).length = 16 := by simp [vmax]
theorem vmax_at (v u : Vec) (r : Int) (h0 : 0 ≤ r) (h1 : r < 16) : vat (vmax v u) r = max (vat v r) (vat u r) := by
  obtain ⟨a, rfl⟩ := Int.eq_ofNat_of_zero_le h0
  rw [vat_get (by rw [vmax_len]; omega)]
  simp [vmax]
theorem vmax_ok {v u : Vec} (hv : VOk v) (hu : VOk u) : VOk (vmax v u) :=
  ⟨vmax_len v u, fun r h0 h1 => by rw [vmax_at v u r h0 h1]; have := hv.lo r h0 h1; omega, fun r h0 h1 => by rw [vmax_at v u r h0 h1]; have := hv.hi r h0 h1; have := hu.hi r h0 h1; omega⟩
def upTo (v u m : Vec) (i : Nat) : Prop := m.length = 16 ∧ ∀ r : Int, 0 ≤ r → r < 16 → vat m r = if r < (i : Int) then max (vat v r) (vat u r) else vat v r
theorem upTo_end {v u m : Vec} (h : upTo v u m 16) : m = vmax v u := vec_ext h.1 (vmax_len v u) fun r h0 h1 => by rw [h.2 r h0 h1, if_pos (by omega), vmax_at v u r h0 h1]
theorem upTo_step {v u m : Vec} {i : Nat} {x : Int} (h : upTo v u m i) (hi : i < 16) (hx : x = max (vat v (i : Int)) (vat u (i : Int))) : upTo v u (upd m i x) (i + 1) := by
  refine ⟨by simp [upd, h.1], fun r h0 h1 => ?_⟩
  have := vat_upd (v := m) (r := (i : Int)) (x := x) (by omega) (by rw [h.1]; omega) r h0
  rw [natOf_nat] at this
  rw [this]
  by_cases e : r = (i : Int)
  · rw [if_pos e, if_pos (by omega), hx, e]
  · rw [if_neg e, h.2 r h0 h1]
    by_cases e2 : r < (i : Int)
    · rw [if_pos e2, if_pos (by omega)]
    · rw [if_neg e2, if_neg (by omega)]
theorem imax_is (a b : Int) : imax a b = max a b := by unfold imax; split <;> omega
theorem both_l (k : Nat) (v u za : Vec) : ∀ (n i : Nat) (m : Vec), i ≤ 16 → 16 < n + i → upTo v u m i → vec_both_vec_Join_1.l2 k n (i : Int) m u za = some (vmax v u)
  | 0, i, _, h, h', _ => by omega
  | n + 1, i, m, h, h', hm => by
    rw [vec_both_vec_Join_1.l2_eq, natOf_nat]
    have e1 : ilt (i : Int) 16 = decide (i < 16) := ilt_nn i 16
    rw [e1, inB_nat]
    by_cases hi : i < 16
    · have h1 : rd (.int .i64) m i = vat m (i : Int) := rfl
      have h2 : rd (.int .i64) u i = vat u (i : Int) := rfl
      have h3 : vat m (i : Int) = vat v (i : Int) := by rw [hm.2 i (by omega) (by omega), if_neg (by omega)]
      rw [h1, h2, h3, vec_Join_1.f_eq, imax_is, iadd_nat (by omega)]
      simp only [hi, decide_true, br_true, bnd_some]
      exact both_l k v u za n (i + 1) _ (by omega) (by omega) (upTo_step hm hi rfl)
    · have : i = 16 := by omega
      subst this
      simp only [Nat.lt_irrefl, decide_false, br_false]
      rw [upTo_end hm]
theorem join_is (k : Nat) (v u : Vec) (hv : v.length = 16) (hk : 17 < k) : vec_Join.f k v u = some (vmax v u) := by
  rw [vec_Join.f_eq, vec_both_vec_Join_1.f_eq]
  have := both_l k v u (zarr 16 0) k 0 v (by omega) (by omega) ⟨hv, fun r h0 _ => by rw [if_neg (by omega)]⟩
  rw [show vec_both_vec_Join_1.l2 k k 0 v u (zarr 16 0) = _ from this]; rfl
def unionD (s t : DSet) : DSet := mk (vmax s.1 t.1) (isort dotLt (s.2 ++ t.2))
theorem unionD_can {s t : DSet} (hs : Can s) (ht : Can t) : Can (unionD s t) ∧ (∀ x, Mem (unionD s t) x ↔ Mem s x ∨ Mem t x) ∧ (unionD s t).2.length ≤ s.2.length + t.2.length := by
  have hmem : ∀ d, d ∈ isort dotLt (s.2 ++ t.2) ↔ d ∈ s.2 ∨ d ∈ t.2 := fun d => by rw [(isort_perm dotLt _).mem_iff, List.mem_append]
  obtain ⟨h1, h2, h3, _⟩ := mk_can (vmax_ok hs.vok ht.vok) (isort dotLt (s.2 ++ t.2)) (fun d hd => ((hmem d).1 hd).elim (hs.rt d) (ht.rt d)) (isort_sorted dotLt_swo _)
  refine ⟨h1, fun x => ?_, ?_⟩
  · rw [show Mem (unionD s t) x ↔ _ from h2 x, hmem]
    constructor
    · rintro ⟨a, b | b | b⟩
      · obtain ⟨q0, q1, _, _⟩ := (rightD_iff x).1 a
        rw [vmax_at _ _ x.1 q0 q1] at b
        rcases (by omega : x.2 ≤ vat s.1 x.1 ∨ x.2 ≤ vat t.1 x.1) with h | h
        · exact .inl ⟨a, .inl h⟩
        · exact .inr ⟨a, .inl h⟩
      · exact .inl ⟨a, .inr b⟩
      · exact .inr ⟨a, .inr b⟩
    · rintro (⟨a, b⟩ | ⟨a, b⟩)
      · obtain ⟨q0, q1, _, _⟩ := (rightD_iff x).1 a
        refine ⟨a, b.imp (fun h => ?_) .inl⟩
        rw [vmax_at _ _ x.1 q0 q1]; omega
      · obtain ⟨q0, q1, _, _⟩ := (rightD_iff x).1 a
        refine ⟨a, b.imp (fun h => ?_) .inr⟩
        rw [vmax_at _ _ x.1 q0 q1]; omega
  · refine Nat.le_trans h3 ?_
    rw [(isort_perm dotLt _).length_eq, List.length_append]; exact Nat.le_refl _
theorem concat_is (k : Nat) (a b : List Dot) (ha : a.length ≤ 1000000) (hb : b.length ≤ 1000000) (hk : 3 ≤ k) : slices_Concat_api_Dot_api_Dot.f k (a :: (b :: [])) = some (a ++ b) := by
  obtain ⟨q, rfl⟩ : ∃ q, k = q + 1 + 1 + 1 := ⟨k - 3, by omega⟩
  rw [slices_Concat_api_Dot_api_Dot.f_eq, slices_Concat_api_Dot_api_Dot.l3_eq, slices_Concat_api_Dot_api_Dot.l3_eq, slices_Concat_api_Dot_api_Dot.l3_eq]
  rw [slices_Concat_api_Dot_api_Dot.l11_eq, slices_Concat_api_Dot_api_Dot.l11_eq, slices_Concat_api_Dot_api_Dot.l11_eq]
  have i1 : iadd .i64 0 1 = 1 := rfl
  have i2 : iadd .i64 1 1 = 2 := rfl
  have l2 : ilen (a :: (b :: [])) = 2 := rfl
  have r0 : rd (.slc tDot) (a :: (b :: [])) (natOf 0) = a := rfl
  have r1 : rd (.slc tDot) (a :: (b :: [])) (natOf 1) = b := rfl
  have n0 : inL 0 (a :: (b :: [])) = true := rfl
  have n1 : inL 1 (a :: (b :: [])) = true := rfl
  have t0 : ilt 0 2 = true := rfl
  have t1 : ilt 1 2 = true := rfl
  have t2 : ilt 2 2 = false := rfl
  have s0 : iadd .i64 0 (ilen a) = ilen a := by rw [iadd_s (by omega) (by omega) (by unfold ilen; omega) (by unfold ilen; omega), Int.zero_add]
  have s1 : iadd .i64 (ilen a) (ilen b) = ilen a + ilen b := iadd_s (by unfold ilen; omega) (by unfold ilen; omega) (by unfold ilen; omega) (by unfold ilen; omega)
  have g0 : ilt (ilen a) 0 = false := decide_eq_false (by unfold ilen; omega)
  have g1 : ilt (ilen a + ilen b) 0 = false := decide_eq_false (by unfold ilen; omega)
  have g2 : ilt 4294967296 (ilen a + ilen b) = false := decide_eq_false (by unfold ilen; omega)
  have m0 : room ([] : List Int) ([] : List Int) = true := rfl
  have m1 : room ([] : List Dot) a = true := decide_eq_true (by show 0 + a.length ≤ 4294967296; omega)
  have m2 : room (app ([] : List Dot) a) b = true := decide_eq_true (by show a.length + b.length ≤ 4294967296; omega)
  rw [i1, l2, i2, r0, r1, n0, n1, t0, t1, t2, s0, s1, g0, g1, g2, m0, m1, m2]
  simp only [br_true, br_false, app, List.nil_append]
theorem union_is (k : Nat) (s t : DSet) (hs : Can s) (ht : Can t) (hl : s.2.length + t.2.length < k) (h17 : 17 < k) (hk : k < 1000000) : dots_Union.f k s t = some (unionD s t) := by
  have hmem : ∀ d, d ∈ isort dotLt (s.2 ++ t.2) ↔ d ∈ s.2 ∨ d ∈ t.2 := fun d => by rw [(isort_perm dotLt _).mem_iff, List.mem_append]
  rw [dots_Union.f_eq, concat_is k _ _ (by omega) (by omega) (by omega)]
  simp only [bnd_some]
  have e : room ([] : List Int) (s.2 ++ t.2) = true := by simp [room]; omega
  rw [e, join_is k _ _ hs.vok.len h17]
  simp only [br_true, bnd_some]
  rw [made_is k _ (by rw [(isort_perm dotLt _).length_eq, List.length_append]; exact hl) hk (fun d hd => ((hmem d).1 hd).elim (hs.rt d) (ht.rt d)) (isort_sorted dotLt_swo _) _ (vmax_ok hs.vok ht.vok)]
  rfl
theorem puts_can : ∀ (l : List Dot) (s : DSet), Can s → (∀ d ∈ l, rightD d = true) → Can (l.foldl putD s) ∧ (∀ x, Mem (l.foldl putD s) x ↔ Mem s x ∨ x ∈ l) ∧ (l.foldl putD s).2.length ≤ s.2.length + l.length
  | [], s, hs, _ => ⟨hs, fun x => by simp, Nat.le_refl _⟩
  | d :: l, s, hs, hr => by
    obtain ⟨a, b, c⟩ := putD_can hs d
    obtain ⟨p, q, r⟩ := puts_can l (putD s d) a (fun e he => hr e (List.mem_cons_of_mem _ he))
    refine ⟨p, fun x => ?_, by simp only [List.length_cons]; show ((d :: l).foldl putD s).2.length ≤ _; simp only [List.foldl_cons]; omega⟩
    show Mem (l.foldl putD (putD s d)) x ↔ _
    rw [q, b, List.mem_cons]
    have hd := hr d (by simp)
    constructor
    · rintro ((h | ⟨_, h⟩) | h)
      · exact .inl h
      · exact .inr (.inl h)
      · exact .inr (.inr h)
    · rintro (h | h | h)
      · exact .inl (.inl h)
      · exact .inl (.inr ⟨hd, h⟩)
      · exact .inr h
end Go.Proofs.YthghlnmihipeoaaGreatDoor
end
section
/- That runs answer; binary search. -/
namespace Go.Proofs.YthghlnmihipeoaaGreatDoor.Pal
open Go
def Tot {α : Type} (x : Option α) : Prop := ∃ r, x = some r
theorem some_tot {α : Type} (a : α) : Tot (some a) := ⟨a, rfl⟩
theorem br_tot {α : Type} {b : Bool} {x y : Option α} (h1 : Tot x) (h2 : Tot y) : Tot (br b x y) := by cases b <;> assumption
theorem bnd_tot {α β : Type} {x : Option α} {f : α → Option β} (h1 : Tot x) (h2 : ∀ r, x = some r → Tot (f r)) : Tot (bnd x f) := by
  obtain ⟨r, rfl⟩ := h1
  exact h2 r rfl
theorem bnd_tot' {α β : Type} {x : Option α} {f : α → Option β} (h1 : Tot x) (h2 : ∀ r, Tot (f r)) : Tot (bnd x f) := bnd_tot h1 fun r _ => h2 r
theorem loop_tot {ρ : Type} (N : Nat) (L : Nat → Nat → Option ρ) (hs : ∀ n i, i < N → Tot (L n (i + 1)) → Tot (L (n + 1) i)) (he : ∀ n, Tot (L (n + 1) N)) : ∀ n i, i ≤ N → N < n + i → Tot (L n i)
  | 0, i, h, h' => by omega
  | n + 1, i, h, h' => by
    by_cases hi : i < N
    · exact hs n i hi (loop_tot N L hs he n (i + 1) (by omega) (by omega))
    · have : i = N := by omega
      subst this; exact he n
theorem bs_gen {α ρ : Type} (l : List α) (lt : α → Bool) (hm : l.Pairwise (fun a b => lt b = true → lt a = true)) (L : Nat → Nat → Nat → Option ρ) (E : Nat → Option ρ)
    (hs : ∀ n i j, i < j → j ≤ l.length → ∀ h : (i + j) / 2 < l.length, L (n + 1) i j = if lt l[(i + j) / 2] = true then L n ((i + j) / 2 + 1) j else L n i ((i + j) / 2)) (he : ∀ n i, i ≤ l.length → L (n + 1) i i = E i) :
    ∀ n i j, i ≤ j → j ≤ l.length → j < n + i → (∀ t (h : t < l.length), t < i → lt l[t] = true) → (∀ t (h : t < l.length), j ≤ t → lt l[t] = false) →
      ∃ p, p ≤ l.length ∧ (∀ t (h : t < l.length), t < p → lt l[t] = true) ∧ (∀ t (h : t < l.length), p ≤ t → lt l[t] = false) ∧ L n i j = E p
  | 0, i, j, h, _, h', _, _ => by omega
  | n + 1, i, j, hij, hj, hn, h1, h2 => by
    have mono : ∀ s t (hs : s < l.length) (ht : t < l.length), s < t → lt l[t] = true → lt l[s] = true := fun s t hs ht hst => List.pairwise_iff_getElem.1 hm s t hs ht hst
    by_cases e : i = j
    · subst e
      exact ⟨i, hj, h1, h2, he n i hj⟩
    · have hlt : i < j := by omega
      have hm' : (i + j) / 2 < l.length := by omega
      have := hs n i j hlt hj hm'
      cases hc : lt l[(i + j) / 2] with
      | true =>
        rw [hc, if_pos rfl] at this
        rw [this]
        exact bs_gen l lt hm L E hs he n ((i + j) / 2 + 1) j (by omega) hj (by omega) (fun t ht htm => by
          rcases Nat.lt_or_ge t ((i + j) / 2) with h | h
          · exact mono t _ ht hm' h hc
          · have : t = (i + j) / 2 := by omega
            subst this; exact hc) h2
      | false =>
        rw [hc] at this
        simp only [Bool.false_eq_true, if_false] at this
        rw [this]
        exact bs_gen l lt hm L E hs he n i ((i + j) / 2) (by omega) (by omega) (by omega) h1 (fun t ht htm => by
          rcases Nat.lt_or_ge ((i + j) / 2) t with h | h
          · cases hh : lt l[t] with
            | false => rfl
            | true => have := mono _ t hm' ht h hh; rw [hc] at this; cases this
          · have : t = (i + j) / 2 := by omega
            subst this; exact hc)
end Go.Proofs.YthghlnmihipeoaaGreatDoor.Pal
end
section
/- The document's checks of names, paths, values, operations and transactions answer, of short ones. -/
namespace Go.Proofs.YthghlnmihipeoaaGreatDoor
open Pal
abbrev Str := List UInt8
abbrev Val := Int × (Int × Str)
abbrev Op := Int × (List Str × (Val × (Int × List (Dot × Int))))
abbrev Txn := Dot × (Int × (Int × (Bool × List Op)))
noncomputable instance decOp : DecidableEq Op := fun a b => Classical.propDecidable (a = b)
noncomputable instance decTxn : DecidableEq Txn := fun a b => Classical.propDecidable (a = b)
theorem ilt_lenR {α : Type} (c : Nat) (xs : List α) : ilt (c : Int) (ilen xs) = decide (c < xs.length) := by unfold ilt ilen; exact decide_eq_decide.2 ⟨fun h => by omega, fun h => by omega⟩
theorem ile_len {α : Type} (c : Nat) (xs : List α) : ile (ilen xs) (c : Int) = decide (xs.length ≤ c) := by unfold ile ilen; exact decide_eq_decide.2 ⟨fun h => by omega, fun h => by omega⟩
theorem rchar_is (k : Nat) (s : Str) (hk : 10 < k) (hs : s.length < 4000000) : ∃ (c n : Int), ref03_Char.f k s = some (c, n) ∧ 0 ≤ n ∧ n ≤ (s.length : Int) := by
  rw [ref03_Char.f_eq]
  have e0 : ieq (ilen s) 0 = decide (s.length = 0) := ieq0 s
  rw [e0]
  by_cases h0 : s.length = 0
  · rw [decide_eq_true h0]; exact ⟨0, 0, rfl, by decide, by omega⟩
  rw [decide_eq_false h0]
  have e1 : inL 0 s = true := by
    have := inL_nat 0 s
    rw [show inL 0 s = decide (0 < s.length) from this]; exact decide_eq_true (by omega)
  have l2 : ∀ c : Nat, ilt (ilen s) (c : Int) = decide (s.length < c) := fun c => by unfold ilt ilen; exact decide_eq_decide.2 ⟨fun h => by omega, fun h => by omega⟩
  have key : ∀ (N : Nat) (m x : Int), 1 ≤ N → N ≤ s.length → N ≤ 4 → ∃ (c n : Int), ref03_Char.l17 k k s x (N : Int) m 1 = some (c, n) ∧ 0 ≤ n ∧ n ≤ (s.length : Int) := by
    intro N m x hN1 hN hN4
    have : ∀ n i (x : Int), 1 ≤ i → N < n + i → i ≤ N → ∃ (c q : Int), ref03_Char.l17 k n s x (N : Int) m (i : Int) = some (c, q) ∧ 0 ≤ q ∧ q ≤ (s.length : Int) := by
      intro n
      induction n with
      | zero =>
        intro i x h1 h2 h3
        omega
      | succ n ih =>
        intro i x h1 h2 h3
        rw [ref03_Char.l17_eq, ilt_nn]
        by_cases hi : i < N
        · have e2 : inL (i : Int) s = true := by rw [inL_nat]; exact decide_eq_true (by omega)
          have e3 : iadd .i64 (i : Int) 1 = ((i + 1 : Nat) : Int) := iadd_nat (by omega)
          rw [decide_eq_true hi, e2, e3]
          simp only [br_true]
          have z : ∃ (c q : Int), (some ((0 : Int), (0 : Int))) = some (c, q) ∧ 0 ≤ q ∧ q ≤ (s.length : Int) := ⟨0, 0, rfl, by decide, by omega⟩
          have y := ih (i + 1) (isub .i64 (iadd .i64 (imul .i64 64 x) (iwrap .i64 (byteAt s (i : Int)))) 128) (by omega) (by omega) (by omega)
          cases ilt (byteAt s (i : Int)) 128 with
          | true => exact z
          | false =>
            cases ilt 191 (byteAt s (i : Int)) with
            | true => exact z
            | false => exact y
        · rw [decide_eq_false hi]
          simp only [br_false]
          have z : ∃ (c q : Int), (some ((0 : Int), (0 : Int))) = some (c, q) ∧ 0 ≤ q ∧ q ≤ (s.length : Int) := ⟨0, 0, rfl, by decide, by omega⟩
          have y : ∃ (c q : Int), (some (x, (N : Int))) = some (c, q) ∧ 0 ≤ q ∧ q ≤ (s.length : Int) := ⟨x, N, rfl, by omega, by omega⟩
          cases ilt x m with
          | true => exact z
          | false =>
            cases ilt 1114111 x with
            | true => exact z
            | false =>
              cases ile 55296 x with
              | false => exact y
              | true => cases ile x 57343 with
                | true => exact z
                | false => exact y
    exact this k 1 x (by omega) (by omega) (by omega)
  have z : ∃ (c q : Int), (some ((0 : Int), (0 : Int))) = some (c, q) ∧ 0 ≤ q ∧ q ≤ (s.length : Int) := ⟨0, 0, rfl, by decide, by omega⟩
  have kk : ∀ (N : Nat) (m x : Int), 1 ≤ N → N ≤ 4 → ∃ (c n : Int), br (ilt (ilen s) (N : Int)) (some ((0 : Int), (0 : Int))) (ref03_Char.l17 k k s x (N : Int) m 1) = some (c, n) ∧ 0 ≤ n ∧ n ≤ (s.length : Int) := by
    intro N m x hN1 hN
    rw [l2]
    by_cases h : s.length < N
    · rw [decide_eq_true h]; exact z
    · rw [decide_eq_false h]; exact key N m x hN1 (by omega) hN
  have k2 := fun m x => kk 2 m x (by decide) (by decide)
  have k3 := fun m x => kk 3 m x (by decide) (by decide)
  have k4 := fun m x => kk 4 m x (by decide) (by decide)
  rw [e1]
  simp only [br_true, br_false]
  generalize iwrap .i64 (byteAt s 0) = b
  cases ilt b 128 with
  | true => exact ⟨b, 1, rfl, by decide, by omega⟩
  | false =>
    cases ile 194 b <;> cases ilt b 224 <;> cases ile 224 b <;> cases ilt b 240 <;> cases ile 240 b <;> cases ilt b 245 <;> simp only [br_true, br_false] <;> first | exact z | exact k2 _ _ | exact k3 _ _ | exact k4 _ _
theorem rrunes_is (k : Nat) (s : Str) (hk : 10 < k) (hs : s.length < k) (hk2 : k < 1000000) : ∃ (l : List Int) (b : Bool), ref03_Runes.f k s = some (l, b) ∧ l.length ≤ s.length := by
  rw [ref03_Runes.f_eq]
  have : ∀ n i (l : List Int), i ≤ s.length → s.length < n + i → l.length ≤ i → ∃ (l' : List Int) (b : Bool), ref03_Runes.l3 k n s l (i : Int) = some (l', b) ∧ l'.length ≤ s.length := by
    intro n
    induction n with
    | zero => intro i l h1 h2; omega
    | succ n ih =>
      intro i l h1 h2 hl
      rw [ref03_Runes.l3_eq, ilt_nat]
      by_cases hi : i < s.length
      · have hin : inS (i : Int) (ilen s) (ilen s) = true := by
          have h1 : (i : Int) ≤ (s.length : Int) := by omega
          show (decide ((0 : Int) ≤ (i : Int)) && decide ((i : Int) ≤ (s.length : Int)) && decide ((s.length : Int) ≤ (s.length : Int))) = true
          rw [decide_eq_true h1, decide_eq_true (show (0 : Int) ≤ (i : Int) by omega), decide_eq_true (Int.le_refl _)]; rfl
        have hp : (piece s (i : Int) (ilen s)).length = s.length - i := by
          unfold piece ilen
          rw [Int.toNat_natCast, Int.toNat_natCast, List.take_length, List.length_drop]
        obtain ⟨c, q, hc, q0, q1⟩ := rchar_is k (piece s (i : Int) (ilen s)) hk (by omega)
        rw [decide_eq_true hi, hin, hc]
        simp only [br_true, bnd_some, ieq_dec]
        rw [hp] at q1
        by_cases hq : q = 0
        · rw [decide_eq_true hq]; exact ⟨[], false, rfl, by simp⟩
        · rw [decide_eq_false hq]
          simp only [br_false]
          have hr : room l (c :: []) = true := room_le (by simp only [List.length_cons, List.length_nil]; omega)
          obtain ⟨Q, rfl⟩ : ∃ Q : Nat, q = (Q : Int) := ⟨q.toNat, by omega⟩
          have e3 : iadd .i64 (i : Int) (Q : Int) = ((i + Q : Nat) : Int) := by rw [iadd_s (by omega) (by omega) (by omega) (by omega)]; omega
          rw [hr, e3]
          simp only [br_true]
          exact ih (i + Q) _ (by omega) (by omega) (by simp only [app, List.length_append, List.length_cons, List.length_nil]; omega)
      · rw [decide_eq_false hi]
        exact ⟨l, true, rfl, by omega⟩
  exact this k 0 [] (by omega) (by omega) (by simp)
theorem rmay_tot (k : Nat) (c : Int) : Tot (ref03_may.f k c) := by
  rw [ref03_may.f_eq]
  repeat' first | exact some_tot _ | apply br_tot
theorem rname_tot (k : Nat) (s : Str) (hk : 10 < k) (hs : s.length < k) (hk2 : k < 1000000) : Tot (ref03_Right.f k s) := by
  obtain ⟨l, b, h, hl⟩ := rrunes_is k s hk hs hk2
  rw [ref03_Right.f_eq, h]
  simp only [bnd_some]
  refine loop_tot l.length (fun n i => ref03_Right.l3 k n l b (i : Int)) (fun n i hi ih => ?_) (fun n => ?_) k 0 (by omega) (by omega)
  · have e3 : iadd .i64 (i : Int) 1 = ((i + 1 : Nat) : Int) := iadd_nat (by omega)
    simp only [ref03_Right.l3_eq, ilt_nat, inL_nat, hi, decide_true, br_true, e3]
    exact bnd_tot' (rmay_tot k _) fun r => br_tot (some_tot _) ih
  · simp only [ref03_Right.l3_eq, ilt_nat, Nat.lt_irrefl, decide_false, br_false]
    repeat' first | exact some_tot _ | apply br_tot
def ShortP (p : List Str) : Prop := p.length ≤ 12 ∧ ∀ s ∈ p, List.length s ≤ 120
theorem rpath_tot (k : Nat) (p : List Str) (hp : ShortP p) (hk : 1000 < k) (hk2 : k < 1000000) : Tot (ref10_Check.f k p) := by
  rw [ref10_Check.f_eq]
  refine br_tot (some_tot _) (br_tot (some_tot _) ?_)
  have := hp.1
  refine loop_tot p.length (fun n i => ref10_Check.l6 k n p (i : Int)) (fun n i hi ih => ?_) (fun n => ?_) k 0 (by omega) (by omega)
  · have e3 : iadd .i64 (i : Int) 1 = ((i + 1 : Nat) : Int) := iadd_nat (by omega)
    simp only [ref10_Check.l6_eq, ilt_nat, inL_nat, natOf_nat, hi, decide_true, br_true, e3, rd_at' (e := .str) hi]
    have := hp.2 p[i] (List.getElem_mem hi)
    exact bnd_tot' (rname_tot k _ (by omega) (by omega) hk2) fun r => br_tot (some_tot _) ih
  · simp only [ref10_Check.l6_eq, ilt_nat, Nat.lt_irrefl, decide_false, br_false]
    exact some_tot _
theorem rval_tot (k : Nat) (v : Val) (hv : v.2.2.length ≤ 200) (hk : 1000 < k) (hk2 : k < 1000000) : Tot (ref09_Right.f k v) := by
  rw [ref09_Right.f_eq]
  obtain ⟨l, b, h, hl⟩ := rrunes_is k v.2.2 (by omega) (by omega) hk2
  rw [h]
  simp only [bnd_some]
  repeat' first | exact some_tot _ | apply br_tot
theorem rrefs_tot (k : Nat) (l : List (Dot × Int)) (hl : l.length ≤ 300) (hk : 1000 < k) (hk2 : k < 1000000) : Tot (ref11_Refs.f k l) := by
  rw [ref11_Refs.f_eq]
  refine loop_tot l.length (fun n i => ref11_Refs.l2 k n l (i : Int)) (fun n i hi ih => ?_) (fun n => ?_) k 0 (by omega) (by omega)
  · have e3 : iadd .i64 (i : Int) 1 = ((i + 1 : Nat) : Int) := iadd_nat (by omega)
    have e4 : ilt 0 (i : Int) = decide (0 < i) := ilt_nn 0 i
    simp only [ref11_Refs.l2_eq, ilt_nat, inL_nat, hi, decide_true, br_true, e3, rright_is, bnd_some, e4]
    refine br_tot (some_tot _) (br_tot (some_tot _) (br_tot (some_tot _) ?_))
    by_cases h0 : 0 < i
    · have hi1 : i - 1 < l.length := by omega
      have e5 : isub .i64 (i : Int) 1 = ((i - 1 : Nat) : Int) := by rw [isub_s (by omega) (by omega) (by omega) (by omega)]; omega
      simp only [h0, decide_true, br_true, e5, inL_nat, hi1, ref04_Refs.f_eq, rcmp_is, bnd_some]
      refine bnd_tot' (br_tot (some_tot _) (bnd_tot' ?_ fun r => some_tot _)) fun r => br_tot (some_tot _) ih
      rw [ref04_ints.f_eq]
      repeat' first | exact some_tot _ | apply br_tot
    · simp only [h0, decide_false, br_false]; exact ih
  · simp only [ref11_Refs.l2_eq, ilt_nat, Nat.lt_irrefl, decide_false, br_false]
    exact some_tot _
structure ShortO (o : Op) : Prop where
  path : ShortP o.2.1
  val : o.2.2.1.2.2.length ≤ 200
  seen : o.2.2.2.2.length ≤ 300
theorem rgone_tot (k : Nat) (o : Op) : Tot (ref11_Gone.f k o) := by
  rw [ref11_Gone.f_eq]
  repeat' first | exact some_tot _ | apply br_tot
theorem rop_tot (k : Nat) (o : Op) (ho : ShortO o) (hk : 1000 < k) (hk2 : k < 1000000) : Tot (ref11_Check.f k o) := by
  rw [ref11_Check.f_eq]
  obtain ⟨r1, h1⟩ := rpath_tot k _ ho.path hk hk2
  obtain ⟨r2, h2⟩ := rval_tot k _ ho.val hk hk2
  obtain ⟨r3, h3⟩ := rrefs_tot k _ ho.seen hk hk2
  rw [h1, h2, h3]
  simp only [bnd_some]
  repeat' first | exact some_tot _ | apply br_tot
structure ShortT (t : Txn) : Prop where
  len : t.2.2.2.2.length ≤ 20
  ops : ∀ o ∈ t.2.2.2.2, ShortO o
theorem rpathshort_is (k : Nat) (p : List Str) (hk : 1000 < k) (hk2 : k < 1000000) : ∃ b, ref10_Short.f k p = some b ∧ (b = true → ShortP p) := by
  rw [ref10_Short.f_eq, show ilt 12 (ilen p) = decide (12 < p.length) from ilt_lenR 12 p]
  by_cases h : 12 < p.length
  · rw [decide_eq_true h]; exact ⟨false, rfl, fun h => by cases h⟩
  · rw [decide_eq_false h]
    simp only [br_false]
    obtain ⟨b, hb, hbi⟩ := loop_all' p.length (fun n i => ref10_Short.l4 k n p (i : Int)) (fun j => ∀ s, p[j]? = some s → List.length s ≤ 120) (fun n i hi => by
      have e3 : iadd .i64 (i : Int) 1 = ((i + 1 : Nat) : Int) := iadd_nat (by omega)
      have e4 : ilt 120 (ilen p[i]) = decide (120 < List.length p[i]) := ilt_lenR 120 p[i]
      simp only [ref10_Short.l4_eq, ilt_nat, inL_nat, natOf_nat, hi, decide_true, br_true, e3, rd_at' (e := .str) hi, e4, br_dec, List.getElem?_eq_getElem hi]
      by_cases hl : 120 < List.length p[i]
      · exact .inr ⟨fun hh => by have := hh _ rfl; omega, if_pos hl⟩
      · exact .inl ⟨fun s hs => by injection hs with hs; subst hs; omega, if_neg hl⟩) (fun n => by simp only [ref10_Short.l4_eq, ilt_nat, Nat.lt_irrefl, decide_false, br_false]) k 0 (by omega) (by omega)
    refine ⟨b, hb, fun hh => ⟨by omega, fun s hs => ?_⟩⟩
    obtain ⟨j, hj, rfl⟩ := List.mem_iff_getElem.1 hs
    exact hbi.1 hh j (by omega) hj _ (List.getElem?_eq_getElem hj)
theorem ropshort_is (k : Nat) (o : Op) (hk : 1000 < k) (hk2 : k < 1000000) : ∃ b, ref11_Short.f k o = some b ∧ (b = true → ShortO o) := by
  obtain ⟨b, hb, hbi⟩ := rpathshort_is k o.2.1 hk hk2
  rw [ref11_Short.f_eq, hb]
  simp only [bnd_some]
  rw [show ile (ilen o.2.2.1.2.2) 200 = decide (o.2.2.1.2.2.length ≤ 200) from ile_len 200 _, show ile (ilen o.2.2.2.2) 300 = decide (o.2.2.2.2.length ≤ 300) from ile_len 300 _]
  cases b with
  | false => exact ⟨false, rfl, fun h => by cases h⟩
  | true =>
    simp only [br_true, br_dec]
    by_cases h : o.2.2.1.2.2.length ≤ 200
    · rw [if_pos h]; exact ⟨_, rfl, fun hh => ⟨hbi rfl, h, of_decide_eq_true hh⟩⟩
    · rw [if_neg h]; exact ⟨false, rfl, fun h => by cases h⟩
def shortAt (k : Nat) (t : Txn) (j : Nat) : Prop := ∀ o, t.2.2.2.2[j]? = some o → ∃ b, ref11_Short.f k o = some b ∧ b = true
theorem rtxnshort_is (k : Nat) (t : Txn) (hk : 1000 < k) (hk2 : k < 1000000) : ∃ b, ref12_Short.f k t = some b ∧ (b = true → ShortT t) := by
  rw [ref12_Short.f_eq, show ilt 20 (ilen t.2.2.2.2) = decide (20 < t.2.2.2.2.length) from ilt_lenR 20 _]
  by_cases h : 20 < t.2.2.2.2.length
  · rw [decide_eq_true h]; exact ⟨false, rfl, fun h => by cases h⟩
  · rw [decide_eq_false h]
    simp only [br_false]
    obtain ⟨b, hb, hbi⟩ := loop_all' t.2.2.2.2.length (fun n i => br (decide True) (ref12_Short.l4 k n (i : Int) t) none) (shortAt k t) (fun n i hi => by
      have e3 : iadd .i64 (i : Int) 1 = ((i + 1 : Nat) : Int) := iadd_nat (by omega)
      obtain ⟨b, hb, _⟩ := ropshort_is k t.2.2.2.2[i] hk hk2
      simp only [decide_true, br_true, ref12_Short.l4_eq, ilt_nat, inL_nat, natOf_nat, hi, e3, rd_at' (e := tOp) hi, hb, bnd_some]
      cases b with
      | false => exact .inr ⟨fun hh => (by obtain ⟨c, h1, h2⟩ := hh _ (List.getElem?_eq_getElem hi); rw [hb] at h1; injection h1 with h1; subst h1; cases h2), rfl⟩
      | true => exact .inl ⟨fun s hs => (by rw [List.getElem?_eq_getElem hi] at hs; injection hs with hs; subst hs; exact ⟨true, hb, rfl⟩), rfl⟩) (fun n => by simp only [decide_true, br_true, ref12_Short.l4_eq, ilt_nat, Nat.lt_irrefl, decide_false, br_false]) k 0 (by omega) (by omega)
    refine ⟨b, hb, fun hh => ⟨by omega, fun o ho => ?_⟩⟩
    obtain ⟨j, hj, rfl⟩ := List.mem_iff_getElem.1 ho
    obtain ⟨c, h1, h2⟩ := hbi.1 hh j (by omega) hj _ (List.getElem?_eq_getElem hj)
    obtain ⟨d, h3, h4⟩ := ropshort_is k _ hk hk2
    rw [h3] at h1; injection h1 with h1; subst h1
    exact h4 h2
theorem rtxn_is (k : Nat) (t : Txn) (ht : ShortT t) (hk : 1000 < k) (hk2 : k < 1000000) : ∃ e : Int, ref12_Check.f k t = some e ∧ (e = 0 → rightD t.1 = true) := by
  rw [ref12_Check.f_eq, rright_is]
  simp only [bnd_some]
  cases hd : rightD t.1 with
  | false => exact ⟨2, rfl, fun h => by cases h⟩
  | true =>
    have : Tot (ref12_Check.l8 k k 0 t) := by
      have := ht.len
      refine loop_tot t.2.2.2.2.length (fun n i => ref12_Check.l8 k n (i : Int) t) (fun n i hi ih => ?_) (fun n => ?_) k 0 (by omega) (by omega)
      · have e3 : iadd .i64 (i : Int) 1 = ((i + 1 : Nat) : Int) := iadd_nat (by omega)
        obtain ⟨e, he⟩ := rop_tot k t.2.2.2.2[i] (ht.ops _ (List.getElem_mem hi)) hk hk2
        obtain ⟨g, hg⟩ := rgone_tot k t.2.2.2.2[i]
        simp only [ref12_Check.l8_eq, ilt_nat, inL_nat, natOf_nat, hi, decide_true, br_true, e3, rd_at' (e := tOp) hi, he, hg, bnd_some]
        exact br_tot (br_tot (br_tot (some_tot _) ih) (br_tot (some_tot _) ih)) ih
      · simp only [ref12_Check.l8_eq, ilt_nat, Nat.lt_irrefl, decide_false, br_false]
        exact some_tot _
    have bt : bnot true = false := rfl
    rw [bt]
    simp only [br_false]
    have all : Tot (br (ilt t.2.1 0) (some (2 : Int)) (br (ilt 7 t.2.1) (some 2) (br (ilt t.2.2.1 1) (some 2) (br (ilt 1099511627776 t.2.2.1) (some 2) (br (ieq (ilen t.2.2.2.2) 0) (some 11) (br (ilt 16 (ilen t.2.2.2.2)) (some 7) (ref12_Check.l8 k k 0 t))))))) := by
      repeat' first | exact some_tot _ | exact this | apply br_tot
    obtain ⟨e, he⟩ := all
    exact ⟨e, he, fun _ => trivial⟩
end Go.Proofs.YthghlnmihipeoaaGreatDoor
end
section
/- Counts: rows of dots with numbers, in order; joined, put, looked up. Plain facts. -/
namespace Go.Proofs.YthghlnmihipeoaaGreatDoor
open Pal
abbrev Undo := Dot × Int
def rightU (u : Undo) : Bool := rightD u.1 && decide (1 ≤ u.2 ∧ u.2 ≤ 64)
theorem rightU_iff (u : Undo) : rightU u = true ↔ rightD u.1 = true ∧ 1 ≤ u.2 ∧ u.2 ≤ 64 := by simp [rightU]
structure CanU (l : List Undo) : Prop where
  rt : ∀ u ∈ l, rightU u = true
  srt : l.Pairwise (fun a b => dotLt a.1 b.1 = true)
def getU : List Undo → Dot → Int
  | [], _ => 0
  | u :: r, d => if u.1 = d then u.2 else getU r d
theorem CanU.nil : CanU [] := ⟨fun u hu => by simp at hu, List.Pairwise.nil⟩
theorem CanU.tail {u : Undo} {l : List Undo} (h : CanU (u :: l)) : CanU l := ⟨fun v hv => h.rt v (List.mem_cons_of_mem _ hv), (List.pairwise_cons.1 h.srt).2⟩
theorem CanU.head {u : Undo} {l : List Undo} (h : CanU (u :: l)) : ∀ v ∈ l, dotLt u.1 v.1 = true := (List.pairwise_cons.1 h.srt).1
theorem CanU.cons {u : Undo} {l : List Undo} (h : CanU l) (h1 : rightU u = true) (h2 : ∀ v ∈ l, dotLt u.1 v.1 = true) : CanU (u :: l) :=
  ⟨fun v hv => by rcases List.mem_cons.1 hv with rfl | hv; exact h1; exact h.rt v hv, List.pairwise_cons.2 ⟨h2, h.srt⟩⟩
theorem dotLt_ne {a b : Dot} (h : dotLt a b = true) : a ≠ b := fun e => by subst e; rw [dotLt_swo.irrefl] at h; cases h
theorem getU_none {l : List Undo} {d : Dot} (h : ∀ u ∈ l, u.1 ≠ d) : getU l d = 0 := by
  induction l with
  | nil => rfl
  | cons u l ih =>
    rw [getU, if_neg (h u (by simp))]
    exact ih fun v hv => h v (List.mem_cons_of_mem _ hv)
theorem getU_below {l : List Undo} {d : Dot} (h : ∀ u ∈ l, dotLt d u.1 = true) : getU l d = 0 := getU_none fun u hu e => dotLt_ne (h u hu) e.symm
theorem getU_mem {l : List Undo} {u : Undo} (h : CanU l) (hu : u ∈ l) : getU l u.1 = u.2 := by
  induction l with
  | nil => cases hu
  | cons v l ih =>
    rw [getU]
    rcases List.mem_cons.1 hu with e | hu
    · subst e; rw [if_pos rfl]
    · rw [if_neg (dotLt_ne (h.head u hu))]; exact ih h.tail hu
theorem getU_pos {l : List Undo} {d : Dot} (hp : getU l d ≠ 0) : (d, getU l d) ∈ l := by
  induction l with
  | nil => exact absurd rfl hp
  | cons v l ih =>
    rw [getU] at hp ⊢
    by_cases e : v.1 = d
    · rw [if_pos e]; subst e; simp
    · rw [if_neg e] at hp ⊢; exact List.mem_cons_of_mem _ (ih hp)
theorem getU_range {l : List Undo} (h : CanU l) (d : Dot) : 0 ≤ getU l d ∧ getU l d ≤ 64 := by
  by_cases hp : getU l d = 0
  · omega
  · have := (rightU_iff _).1 (h.rt _ (getU_pos hp))
    simp only at this; omega
theorem memU_iff {l : List Undo} (h : CanU l) (u : Undo) : u ∈ l ↔ getU l u.1 = u.2 ∧ 1 ≤ u.2 := by
  constructor
  · intro hu; exact ⟨getU_mem h hu, ((rightU_iff u).1 (h.rt u hu)).2.1⟩
  · rintro ⟨h1, h2⟩
    have := getU_pos (l := l) (d := u.1) (by omega)
    rwa [h1] at this
def undoLt (a b : Undo) : Bool := dotLt a.1 b.1 || (decide (a.1 = b.1) && decide (a.2 < b.2))
theorem undoLt_of {a b : Undo} (h : dotLt a.1 b.1 = true) : undoLt b a = false := by
  unfold undoLt
  rw [dotLt_asym h]
  have : ¬ b.1 = a.1 := fun e => dotLt_ne h e.symm
  simp [this]
theorem undoLt_tot (x y : Undo) (h1 : undoLt x y = false) (h2 : undoLt y x = false) : x = y := by
  unfold undoLt at h1 h2
  simp only [Bool.or_eq_false_iff, Bool.and_eq_false_iff, decide_eq_false_iff_not] at h1 h2
  have e := dotLt_tot x.1 y.1 h1.1 h2.1
  refine Prod.ext e ?_
  rcases h1.2 with h | h
  · exact absurd e h
  · rcases h2.2 with h' | h'
    · exact absurd e.symm h'
    · omega
theorem canU_nodup {l : List Undo} (h : CanU l) : l.Nodup := h.srt.imp fun {a b} hab e => by subst e; rw [dotLt_swo.irrefl] at hab; cases hab
theorem canU_unique {l m : List Undo} (h1 : CanU l) (h2 : CanU m) (h : ∀ d, getU l d = getU m d) : l = m := by
  refine sorted_unique undoLt_tot ((List.perm_ext_iff_of_nodup (canU_nodup h1) (canU_nodup h2)).2 fun u => ?_) (h1.srt.imp undoLt_of) (h2.srt.imp undoLt_of)
  rw [memU_iff h1, memU_iff h2, h]
def joinU : List Undo → List Undo → List Undo
  | [], b => b
  | a, [] => a
  | x :: a, y :: b => if dotLt x.1 y.1 then x :: joinU a (y :: b) else if dotLt y.1 x.1 then y :: joinU (x :: a) b else (x.1, max x.2 y.2) :: joinU a b
termination_by a b => a.length + b.length
theorem joinU_nil (b : List Undo) : joinU [] b = b := by rw [joinU]
theorem joinU_nil' (a : List Undo) : joinU a [] = a := by cases a <;> simp [joinU]
theorem joinU_cons (x : Undo) (a : List Undo) (y : Undo) (b : List Undo) : joinU (x :: a) (y :: b) = if dotLt x.1 y.1 then x :: joinU a (y :: b) else if dotLt y.1 x.1 then y :: joinU (x :: a) b else (x.1, max x.2 y.2) :: joinU a b := by rw [joinU]
theorem dotLt_trans {a b c : Dot} (h1 : dotLt a b = true) (h2 : dotLt b c = true) : dotLt a c = true := dotLt_swo.trans _ _ _ h1 h2
theorem joinU_all : ∀ (n : Nat) (a b : List Undo), a.length + b.length ≤ n → CanU a → CanU b →
    CanU (joinU a b) ∧ (∀ d, getU (joinU a b) d = max (getU a d) (getU b d)) ∧ (∀ e : Dot, (∀ u ∈ a, dotLt e u.1 = true) → (∀ u ∈ b, dotLt e u.1 = true) → ∀ u ∈ joinU a b, dotLt e u.1 = true) ∧ (joinU a b).length ≤ a.length + b.length
  | n, [], b, _, ha, hb => by
    rw [joinU_nil]
    exact ⟨hb, fun d => by have := (getU_range hb d).1; show _ = max 0 (getU b d); omega, fun e _ h => h, by simp⟩
  | n, x :: a, [], _, ha, hb => by
    rw [joinU_nil']
    exact ⟨ha, fun d => by have := (getU_range ha d).1; show _ = max (getU (x :: a) d) 0; omega, fun e h _ => h, by simp⟩
  | 0, x :: a, y :: b, h, _, _ => by simp at h
  | n + 1, x :: a, y :: b, h, ha, hb => by
    simp only [List.length_cons] at h
    rw [joinU_cons]
    have hx := ha.rt x (by simp)
    have hy := hb.rt y (by simp)
    by_cases h1 : dotLt x.1 y.1 = true
    · obtain ⟨c1, c2, c3, c4⟩ := joinU_all n a (y :: b) (by simp only [List.length_cons]; omega) ha.tail hb
      have hb' : ∀ u ∈ y :: b, dotLt x.1 u.1 = true := fun u hu => by
        rcases List.mem_cons.1 hu with rfl | hu
        · exact h1
        · exact dotLt_trans h1 (hb.head u hu)
      rw [if_pos h1]
      refine ⟨c1.cons hx (c3 x.1 ha.head hb'), fun d => ?_, fun e h2 h3 u hu => ?_, by simp only [List.length_cons] at c4 ⊢; omega⟩
      · rw [getU, getU]
        by_cases e : x.1 = d
        · rw [if_pos e, if_pos e]
          subst e
          rw [getU_below hb']
          have := ((rightU_iff x).1 hx).2.1; omega
        · rw [if_neg e, if_neg e]; exact c2 d
      · rcases List.mem_cons.1 hu with rfl | hu
        · exact h2 _ (by simp)
        · exact c3 e (fun v hv => h2 v (List.mem_cons_of_mem _ hv)) h3 u hu
    · rw [if_neg h1]
      by_cases h2 : dotLt y.1 x.1 = true
      · obtain ⟨c1, c2, c3, c4⟩ := joinU_all n (x :: a) b (by simp only [List.length_cons]; omega) ha hb.tail
        have ha' : ∀ u ∈ x :: a, dotLt y.1 u.1 = true := fun u hu => by
          rcases List.mem_cons.1 hu with rfl | hu
          · exact h2
          · exact dotLt_trans h2 (ha.head u hu)
        rw [if_pos h2]
        refine ⟨c1.cons hy (c3 y.1 ha' hb.head), fun d => ?_, fun e h3 h4 u hu => ?_, by simp only [List.length_cons] at c4 ⊢; omega⟩
        · rw [getU]
          by_cases e : y.1 = d
          · rw [if_pos e]
            subst e
            rw [getU_below ha']
            rw [show getU (y :: b) y.1 = y.2 by rw [getU, if_pos rfl]]
            have := ((rightU_iff y).1 hy).2.1; omega
          · rw [if_neg e, c2 d, show getU (y :: b) d = getU b d by rw [getU, if_neg e]]
        · rcases List.mem_cons.1 hu with rfl | hu
          · exact h4 _ (by simp)
          · exact c3 e h3 (fun v hv => h4 v (List.mem_cons_of_mem _ hv)) u hu
      · have hxy : x.1 = y.1 := dotLt_tot _ _ (by simpa using h1) (by simpa using h2)
        obtain ⟨c1, c2, c3, c4⟩ := joinU_all n a b (by omega) ha.tail hb.tail
        rw [if_neg h2]
        refine ⟨c1.cons ?_ (c3 x.1 ha.head (by rw [hxy]; exact hb.head)), fun d => ?_, fun e h3 h4 u hu => ?_, by simp only [List.length_cons] at c4 ⊢; omega⟩
        · rw [rightU_iff] at hx hy ⊢
          exact ⟨hx.1, by show 1 ≤ max x.2 y.2; omega, by show max x.2 y.2 ≤ 64; omega⟩
        · rw [getU, getU, getU, ← hxy]
          by_cases e : x.1 = d
          · rw [if_pos e, if_pos e, if_pos e]
          · rw [if_neg e, if_neg e, if_neg e]; exact c2 d
        · rcases List.mem_cons.1 hu with rfl | hu
          · exact h3 x (by simp)
          · exact c3 e (fun v hv => h3 v (List.mem_cons_of_mem _ hv)) (fun v hv => h4 v (List.mem_cons_of_mem _ hv)) u hu
theorem joinU_can {a b : List Undo} (ha : CanU a) (hb : CanU b) : CanU (joinU a b) := (joinU_all _ a b (Nat.le_refl _) ha hb).1
theorem joinU_get {a b : List Undo} (ha : CanU a) (hb : CanU b) (d : Dot) : getU (joinU a b) d = max (getU a d) (getU b d) := (joinU_all _ a b (Nat.le_refl _) ha hb).2.1 d
theorem joinU_len {a b : List Undo} (ha : CanU a) (hb : CanU b) : (joinU a b).length ≤ a.length + b.length := (joinU_all _ a b (Nat.le_refl _) ha hb).2.2.2
theorem joinU_comm {a b : List Undo} (ha : CanU a) (hb : CanU b) : joinU a b = joinU b a :=
  canU_unique (joinU_can ha hb) (joinU_can hb ha) fun d => by rw [joinU_get ha hb, joinU_get hb ha]; omega
theorem joinU_assoc {a b c : List Undo} (ha : CanU a) (hb : CanU b) (hc : CanU c) : joinU (joinU a b) c = joinU a (joinU b c) :=
  canU_unique (joinU_can (joinU_can ha hb) hc) (joinU_can ha (joinU_can hb hc)) fun d => by
    rw [joinU_get (joinU_can ha hb) hc, joinU_get ha (joinU_can hb hc), joinU_get ha hb, joinU_get hb hc]; omega
theorem cmpD_le (a b : Dot) : cmpD a b ≤ 0 ↔ dotLt b a = false := by
  rw [← Bool.not_eq_true, dotLt_iff]
  unfold cmpD
  by_cases h : a.1 = b.1
  · rw [if_pos ((cmpI_eq _ _).2 h)]
    unfold cmpI; split <;> (try split) <;> omega
  · rw [if_neg (fun e => h ((cmpI_eq _ _).1 e))]
    unfold cmpI; split <;> (try split) <;> omega
theorem cmpD_eq (a b : Dot) : cmpD a b = 0 ↔ a = b := by
  unfold cmpD
  by_cases h : a.1 = b.1
  · rw [if_pos ((cmpI_eq _ _).2 h), cmpI_eq]
    exact ⟨fun e => Prod.ext h e, fun e => by rw [e]⟩
  · rw [if_neg (fun e => h ((cmpI_eq _ _).1 e)), cmpI_eq]
    exact ⟨fun e => absurd e h, fun e => by rw [e]⟩
end Go.Proofs.YthghlnmihipeoaaGreatDoor
end
section
/- Transactions in order, and states: plain facts. -/
namespace Go.Proofs.YthghlnmihipeoaaGreatDoor
open Pal
abbrev Sta := List Txn × (List (Dot × Int) × (DSet × (DSet × List (List Dot))))
abbrev Dlt := List Txn × (List (Dot × Int) × List Dot)
def findT : List Txn → Dot → Option Txn
  | [], _ => none
  | t :: r, d => if t.1 = d then some t else findT r d
structure CanT (l : List Txn) : Prop where
  rt : ∀ t ∈ l, rightD t.1 = true
  srt : l.Pairwise (fun a b => dotLt a.1 b.1 = true)
theorem CanT.nil : CanT [] := ⟨fun u hu => by simp at hu, List.Pairwise.nil⟩
theorem CanT.tail {u : Txn} {l : List Txn} (h : CanT (u :: l)) : CanT l := ⟨fun v hv => h.rt v (List.mem_cons_of_mem _ hv), (List.pairwise_cons.1 h.srt).2⟩
theorem CanT.head {u : Txn} {l : List Txn} (h : CanT (u :: l)) : ∀ v ∈ l, dotLt u.1 v.1 = true := (List.pairwise_cons.1 h.srt).1
theorem CanT.cons {u : Txn} {l : List Txn} (h : CanT l) (h1 : rightD u.1 = true) (h2 : ∀ v ∈ l, dotLt u.1 v.1 = true) : CanT (u :: l) :=
  ⟨fun v hv => by rcases List.mem_cons.1 hv with rfl | hv; exact h1; exact h.rt v hv, List.pairwise_cons.2 ⟨h2, h.srt⟩⟩
theorem findT_none {l : List Txn} {d : Dot} : findT l d = none ↔ ∀ t ∈ l, t.1 ≠ d := by
  induction l with
  | nil => simp [findT]
  | cons u l ih =>
    rw [findT]
    by_cases e : u.1 = d
    · rw [if_pos e]; simp [e]
    · rw [if_neg e, ih]; simp [e]
theorem findT_some {l : List Txn} {d : Dot} {t : Txn} (h : findT l d = some t) : t ∈ l ∧ t.1 = d := by
  induction l with
  | nil => cases h
  | cons u l ih =>
    rw [findT] at h
    by_cases e : u.1 = d
    · rw [if_pos e] at h; injection h with h; subst h; exact ⟨by simp, e⟩
    · rw [if_neg e] at h; exact ⟨List.mem_cons_of_mem _ (ih h).1, (ih h).2⟩
theorem findT_mem {l : List Txn} {t : Txn} (h : CanT l) (ht : t ∈ l) : findT l t.1 = some t := by
  induction l with
  | nil => cases ht
  | cons v l ih =>
    rw [findT]
    rcases List.mem_cons.1 ht with e | ht
    · subst e; rw [if_pos rfl]
    · rw [if_neg (dotLt_ne (h.head t ht))]; exact ih h.tail ht
theorem findT_is {l : List Txn} {d : Dot} : (findT l d).isSome = true ↔ ∃ t ∈ l, t.1 = d := by
  cases h : findT l d with
  | none => exact ⟨fun h => (by cases h), fun ⟨t, ht, hd⟩ => absurd hd (findT_none.1 h t ht)⟩
  | some t => exact ⟨fun _ => ⟨t, (findT_some h).1, (findT_some h).2⟩, fun _ => rfl⟩
theorem canT_unique : ∀ (l m : List Txn), CanT l → CanT m → (∀ d, findT l d = findT m d) → l = m
  | [], [], _, _, _ => rfl
  | [], t :: m, _, hm, h => by have := h t.1; rw [findT_mem hm (by simp)] at this; cases this
  | t :: l, [], hl, _, h => by have := h t.1; rw [findT_mem hl (by simp)] at this; cases this
  | x :: a, y :: b, hl, hm, h => by
    have h1 : findT (y :: b) x.1 = some x := by rw [← h]; exact findT_mem hl (by simp)
    have h2 : findT (x :: a) y.1 = some y := by rw [h]; exact findT_mem hm (by simp)
    have e : x = y := by
      rcases List.mem_cons.1 (findT_some h1).1 with e | hx
      · exact e
      · rcases List.mem_cons.1 (findT_some h2).1 with e | hy
        · exact e.symm
        · have := dotLt_asym (hm.head x hx); rw [hl.head y hy] at this; cases this
    subst e
    congr 1
    refine canT_unique a b hl.tail hm.tail fun d => ?_
    by_cases e : x.1 = d
    · subst e
      rw [findT_none.2 fun t ht e => dotLt_ne (hl.head t ht) e.symm, findT_none.2 fun t ht e => dotLt_ne (hm.head t ht) e.symm]
    · have := h d
      rw [findT, findT, if_neg e, if_neg e] at this
      exact this
def insT (t : Txn) : List Txn → List Txn
  | [] => [t]
  | x :: r => if dotLt x.1 t.1 then x :: insT t r else t :: x :: r
theorem insT_all {t : Txn} (ht : rightD t.1 = true) : ∀ (l : List Txn), CanT l → (∀ x ∈ l, x.1 ≠ t.1) → CanT (insT t l) ∧ (∀ d, findT (insT t l) d = if d = t.1 then some t else findT l d) ∧ (∀ e : Dot, dotLt e t.1 = true → (∀ v ∈ l, dotLt e v.1 = true) → ∀ v ∈ insT t l, dotLt e v.1 = true) ∧ (insT t l).length = l.length + 1
  | [], _, _ => by
    refine ⟨CanT.nil.cons ht fun v hv => by simp at hv, fun d => ?_, fun e h _ v hv => ?_, rfl⟩
    · show (if t.1 = d then some t else none) = if d = t.1 then some t else none
      by_cases e : t.1 = d
      · rw [if_pos e, if_pos e.symm]
      · rw [if_neg e, if_neg (fun h => e h.symm)]
    · simp [insT] at hv; subst hv; exact h
  | x :: r, h, hn => by
    rw [insT]
    by_cases hc : dotLt x.1 t.1 = true
    · rw [if_pos hc]
      obtain ⟨c1, c2, c3, c4⟩ := insT_all ht r h.tail (fun y hy => hn y (List.mem_cons_of_mem _ hy))
      refine ⟨c1.cons (h.rt x (by simp)) (c3 x.1 hc h.head), fun d => ?_, fun e h1 h2 v hv => ?_, by simp [c4]⟩
      · rw [findT, findT, c2]
        by_cases e : x.1 = d
        · rw [if_pos e, if_pos e, if_neg (fun e2 => hn x (by simp) (e.trans e2))]
        · rw [if_neg e, if_neg e]
      · rcases List.mem_cons.1 hv with rfl | hv
        · exact h2 _ (by simp)
        · exact c3 e h1 (fun v hv => h2 v (List.mem_cons_of_mem _ hv)) v hv
    · rw [if_neg hc]
      have hx : dotLt t.1 x.1 = true := by
        cases hl : dotLt t.1 x.1 with
        | true => rfl
        | false => exact absurd (dotLt_tot _ _ (by simpa using hc) hl) (hn x (by simp))
      refine ⟨h.cons ht fun v hv => ?_, fun d => ?_, fun e h1 h2 v hv => ?_, rfl⟩
      · rcases List.mem_cons.1 hv with rfl | hv
        · exact hx
        · exact dotLt_trans hx (h.head v hv)
      · rw [findT]
        by_cases e : t.1 = d
        · rw [if_pos e, if_pos e.symm]
        · rw [if_neg e, if_neg (fun h => e h.symm)]
      · rcases List.mem_cons.1 hv with rfl | hv
        · exact h1
        · exact h2 v hv
theorem insAt_insT {l : List Txn} {t : Txn} {p : Nat} (hl : CanT l) (ht : rightD t.1 = true) (hn : ∀ x ∈ l, x.1 ≠ t.1) (hp : p ≤ l.length) (h1 : ∀ i (h : i < l.length), i < p → dotLt l[i].1 t.1 = true) (h2 : ∀ i (h : i < l.length), p ≤ i → dotLt l[i].1 t.1 = false) : insAt l (p : Int) (t :: []) = insT t l := by
  show l.take p ++ (t :: l.drop p) = insT t l
  have key : ∀ (l : List Txn) (p : Nat), p ≤ l.length → (∀ i (h : i < l.length), i < p → dotLt l[i].1 t.1 = true) → (∀ i (h : i < l.length), p ≤ i → dotLt l[i].1 t.1 = false) → l.take p ++ (t :: l.drop p) = insT t l := by
    intro l
    induction l with
    | nil => intro p hp _ _; simp [insT]
    | cons x r ih =>
      intro p hp h1 h2
      cases p with
      | zero =>
        have := h2 0 (by simp) (Nat.le_refl _)
        simp only [List.getElem_cons_zero] at this
        simp [insT, this]
      | succ p =>
        have := h1 0 (by simp) (by omega)
        simp only [List.getElem_cons_zero] at this
        have ih' := ih p (by simpa using hp) (fun i hi hip => by have := h1 (i + 1) (by simpa using hi) (by omega); simpa using this) (fun i hi hip => by have := h2 (i + 1) (by simpa using hi) (by omega); simpa using this)
        simp only [List.take_succ_cons, List.drop_succ_cons, List.cons_append, insT, this, if_true]
        rw [ih']
  exact key l p hp h1 h2
structure CanS (s : Sta) : Prop where
  tx : CanT s.1
  un : CanU s.2.1
  kn : Can s.2.2.1
  se : Can s.2.2.2.1
  know : ∀ x, Mem s.2.2.1 x ↔ ∃ t ∈ s.1, t.1 = x
structure LenS (n : Nat) (s : Sta) : Prop where
  tx : s.1.length ≤ n
  un : s.2.1.length ≤ n
  kn : s.2.2.1.2.length ≤ n
  se : s.2.2.2.1.2.length ≤ n
  re : ∀ l ∈ s.2.2.2.2, l.length ≤ n
theorem LenS.mono {n m : Nat} {s : Sta} (h : LenS n s) (hnm : n ≤ m) : LenS m s :=
  ⟨Nat.le_trans h.tx hnm, Nat.le_trans h.un hnm, Nat.le_trans h.kn hnm, Nat.le_trans h.se hnm, fun l hl => Nat.le_trans (h.re l hl) hnm⟩
def putS (s : Sta) (t : Txn) : Sta := if (findT s.1 t.1).isSome then s else (insT t s.1, (s.2.1, (putD s.2.2.1 t.1, s.2.2.2)))
theorem putS_all {s : Sta} {t : Txn} (hs : CanS s) (ht : rightD t.1 = true) : CanS (putS s t) ∧ (∀ d, findT (putS s t).1 d = (findT s.1 d).or (if d = t.1 then some t else none)) ∧ (putS s t).2.1 = s.2.1 ∧ (putS s t).2.2.2 = s.2.2.2 ∧ (putS s t).1.length ≤ s.1.length + 1 ∧ (putS s t).2.2.1.2.length ≤ s.2.2.1.2.length + 1 := by
  unfold putS
  by_cases hf : (findT s.1 t.1).isSome = true
  · rw [if_pos hf]
    refine ⟨hs, fun d => ?_, rfl, rfl, by omega, by omega⟩
    by_cases e : d = t.1
    · rw [if_pos e]; subst e
      cases h : findT s.1 t.1 with
      | none => rw [h] at hf; cases hf
      | some x => rfl
    · rw [if_neg e]; cases findT s.1 d <;> rfl
  · rw [if_neg hf]
    have hn : findT s.1 t.1 = none := by cases h : findT s.1 t.1 with
      | none => rfl
      | some x => rw [h] at hf; exact absurd rfl hf
    obtain ⟨c1, c2, _, c4⟩ := insT_all ht s.1 hs.tx (findT_none.1 hn)
    obtain ⟨d1, d2, d3⟩ := putD_can hs.kn t.1
    refine ⟨⟨c1, hs.un, d1, hs.se, fun x => ?_⟩, fun d => ?_, rfl, rfl, by show (insT t s.1).length ≤ _; omega, d3⟩
    · show Mem (putD s.2.2.1 t.1) x ↔ ∃ y ∈ insT t s.1, y.1 = x
      rw [d2, hs.know, ← findT_is, ← findT_is, c2]
      by_cases e : x = t.1
      · rw [if_pos e]; simp [e, ht]
      · rw [if_neg e]; simp [e]
    · show findT (insT t s.1) d = _
      rw [c2]
      by_cases e : d = t.1
      · rw [if_pos e, if_pos e, e, hn]; rfl
      · rw [if_neg e, if_neg e]; cases findT s.1 d <;> rfl
theorem sta_eq {s u : Sta} (hs : CanS s) (hu : CanS u) (h1 : ∀ d, findT s.1 d = findT u.1 d) (h2 : s.2.1 = u.2.1) (h3 : s.2.2.2 = u.2.2.2) : s = u := by
  have e1 := canT_unique _ _ hs.tx hu.tx h1
  have e2 : s.2.2.1 = u.2.2.1 := can_unique hs.kn hu.kn fun x => by rw [hs.know, hu.know, e1]
  obtain ⟨a, b, c, d⟩ := s
  obtain ⟨a', b', c', d'⟩ := u
  simp only at e1 h2 e2 h3
  rw [e1, h2, e2, h3]
structure CanDl (d : Dlt) : Prop where
  tx : CanT d.1
  un : CanU d.2.1
  se : ∀ x ∈ d.2.2, rightD x = true
structure LenD (n : Nat) (d : Dlt) : Prop where
  tx : d.1.length ≤ n
  un : d.2.1.length ≤ n
  se : d.2.2.length ≤ n
def raiseS (s : Sta) (l : List (Dot × Int)) : Sta := (s.1, (joinU s.2.1 l, s.2.2))
def sealS (s : Sta) (l : List Dot) : Sta := (s.1, (s.2.1, (s.2.2.1, (unionD s.2.2.2.1 (ofD l), s.2.2.2.2))))
theorem raiseS_can {s : Sta} {l : List (Dot × Int)} (hs : CanS s) (hl : CanU l) : CanS (raiseS s l) := ⟨hs.tx, joinU_can hs.un hl, hs.kn, hs.se, hs.know⟩
theorem sealS_can {s : Sta} {l : List Dot} (hs : CanS s) : CanS (sealS s l) := ⟨hs.tx, hs.un, hs.kn, (unionD_can hs.se (ofD_can l).1).1, hs.know⟩
theorem unionD_comm' {s t : DSet} (hs : Can s) (ht : Can t) : unionD s t = unionD t s := by
  obtain ⟨p1, p2, _⟩ := unionD_can hs ht
  obtain ⟨q1, q2, _⟩ := unionD_can ht hs
  exact can_unique p1 q1 fun x => by rw [p2, q2]; exact Or.comm
theorem unionD_assoc' {s t u : DSet} (hs : Can s) (ht : Can t) (hu : Can u) : unionD (unionD s t) u = unionD s (unionD t u) := by
  obtain ⟨p1, p2, _⟩ := unionD_can hs ht
  obtain ⟨m1, m2, _⟩ := unionD_can ht hu
  obtain ⟨r1, r2, _⟩ := unionD_can p1 hu
  obtain ⟨n1, n2, _⟩ := unionD_can hs m1
  exact can_unique r1 n1 fun x => by rw [r2, n2, p2, m2]; exact or_assoc
theorem unionD_swap {s t u : DSet} (hs : Can s) (ht : Can t) (hu : Can u) : unionD (unionD s t) u = unionD (unionD s u) t := by
  rw [unionD_assoc' hs ht hu, unionD_comm' ht hu, ← unionD_assoc' hs hu ht]
theorem joinU_swap {a b c : List (Dot × Int)} (ha : CanU a) (hb : CanU b) (hc : CanU c) : joinU (joinU a b) c = joinU (joinU a c) b := by
  rw [joinU_assoc ha hb hc, joinU_comm hb hc, ← joinU_assoc ha hc hb]
end Go.Proofs.YthghlnmihipeoaaGreatDoor
end
section
/- What the program's tally, and the document's, come to. -/
namespace Go.Proofs.YthghlnmihipeoaaGreatDoor
open Pal
theorem cmp_gt0 (a b : Dot) : ilt 0 (cmpD a b) = dotLt b a := by
  rw [Bool.eq_iff_iff]
  show decide (0 < cmpD a b) = true ↔ _
  rw [decide_eq_true_iff]
  have := cmpD_le a b
  constructor
  · intro h; cases hl : dotLt b a with
    | true => rfl
    | false => have := this.2 hl; omega
  · intro h
    by_cases h1 : 0 < cmpD a b
    · exact h1
    · have := this.1 (by omega); rw [h] at this; cases this
theorem rone_is (k : Nat) (u : Undo) : ref08_one.f k u = some (rightU u) := by
  rw [ref08_one.f_eq, rright_is]
  simp only [bnd_some]
  unfold rightU
  cases rightD u.1 with
  | false => rfl
  | true =>
    simp only [br_true, ile_dec, br_dec, Bool.true_and]
    by_cases h : 1 ≤ u.2
    · rw [if_pos h]; simp [h]
    · rw [if_neg h]; simp [h]
theorem deqU (a b : Undo) : deq tUndo a b = decide (a = b) := deq_dec (τ := tUndo) rfl a b
theorem canU_iff {l : List Undo} : CanU l ↔ ∀ j (h : j < l.length), rightU l[j] = true ∧ ∀ h0 : 0 < j, dotLt (l[j - 1]'(by omega)).1 l[j].1 = true := by
  constructor
  · intro h j hj
    exact ⟨h.rt _ (List.getElem_mem hj), fun h0 => List.pairwise_iff_getElem.1 h.srt (j - 1) j (by omega) hj (by omega)⟩
  · intro h
    refine ⟨fun u hu => ?_, List.pairwise_iff_getElem.2 fun i j hi hj hij => ?_⟩
    · obtain ⟨j, hj, rfl⟩ := List.mem_iff_getElem.1 hu
      exact (h j hj).1
    · have key : ∀ d j (hj : j < l.length) (hd : d + 1 ≤ j), dotLt (l[j - (d + 1)]'(by omega)).1 l[j].1 = true := by
        intro d
        induction d with
        | zero => intro j hj hd; exact (h j hj).2 (by omega)
        | succ d ih =>
          intro j hj hd
          have h1 := ih j hj (by omega)
          have h2 := (h (j - (d + 1)) (by omega)).2 (by omega)
          have e : j - (d + 1) - 1 = j - (d + 1 + 1) := by omega
          simp only [e] at h2
          exact dotLt_trans h2 h1
      have := key (j - i - 1) j hj (by omega)
      have e : j - (j - i - 1 + 1) = i := by omega
      simpa only [e] using this
def okU (l : List Undo) (j : Nat) : Prop := ∀ h : j < l.length, rightU l[j] = true ∧ ∀ h0 : 0 < j, dotLt (l[j - 1]'(by omega)).1 l[j].1 = true
theorem rrightU_is (k : Nat) (l : List Undo) (hl : l.length < k) (hk : k < 1000000) : ∃ b, ref08_Right.f k l = some b ∧ (b = true ↔ CanU l) := by
  obtain ⟨b, hb, hbi⟩ := loop_all' l.length (fun n i => ref08_Right.l2 k n l (i : Int)) (okU l) (fun n i hi => by
    simp only [ref08_Right.l2_eq, ilt_nat, inL_nat, natOf_nat, hi, decide_true, br_true, rd_at' (e := tUndo) hi, rone_is, bnd_some]
    cases hu : rightU l[i] with
    | false => exact .inr ⟨fun h => (by have := (h hi).1; rw [hu] at this; cases this), rfl⟩
    | true =>
      have e1 : bnot true = false := rfl
      have e2 : ilt 0 (i : Int) = decide (0 < i) := ilt_nn 0 i
      rw [e1, e2, iadd_nat (by omega)]
      simp only [br_false]
      by_cases h0 : 0 < i
      · have hi1 : i - 1 < l.length := by omega
        have e3 : isub .i64 (i : Int) 1 = ((i - 1 : Nat) : Int) := by rw [isub_s (by omega) (by omega) (by omega) (by omega)]; omega
        rw [e3, inL_nat, natOf_nat, rd_at' (e := tUndo) hi1, rcmp_is]
        simp only [h0, hi1, decide_true, br_true, bnd_some, cmp_m1]
        cases hd : dotLt l[i - 1].1 l[i].1 with
        | true => exact .inl ⟨fun _ => ⟨hu, fun _ => hd⟩, rfl⟩
        | false => exact .inr ⟨fun h => (by have := (h hi).2 h0; rw [hd] at this; cases this), rfl⟩
      · simp only [h0, decide_false, br_false]
        exact .inl ⟨fun _ => ⟨hu, fun h => absurd h h0⟩, trivial⟩) (fun n => by
    simp only [ref08_Right.l2_eq, ilt_nat, Nat.lt_irrefl, decide_false, br_false]) k 0 (by omega) (by omega)
  rw [ref08_Right.f_eq]
  refine ⟨b, hb, hbi.trans ?_⟩
  rw [canU_iff]
  exact ⟨fun h j hj => h j (by omega) hj hj, fun h j _ _ hj => h j hj⟩
theorem tcmp_is (k : Nat) (u v : Undo) (h3 : 3 ≤ k) : tally_compare.f k u v = some (cmpD u.1 v.1) := by
  obtain ⟨q, rfl⟩ : ∃ q, k = q + 3 := ⟨k - 3, by omega⟩
  rw [tally_compare.f_eq, cmpD_is]; rfl
theorem tjoin_l (k : Nat) (h3 : 3 ≤ k) : ∀ (n : Nat) (a b x : List Undo), a.length + b.length < n → x.length + a.length + b.length < 4000000 → tally_Join.l2 k n a b x = some (x ++ joinU a b)
  | 0, a, b, x, h, _ => by omega
  | n + 1, [], [], x, h, hx => by
    rw [tally_Join.l2_eq, joinU_nil]
    simp only [ilt0, List.length_nil, Nat.lt_irrefl, decide_false, br_false, List.append_nil]
  | n + 1, [], y :: b, x, h, hx => by
    simp only [List.length_nil, List.length_cons, Nat.zero_add] at h hx
    have hr : room x (y :: []) = true := room_le (by simp only [List.length_cons, List.length_nil]; omega)
    rw [tally_Join.l2_eq]
    simp only [ilt0, ieq0, List.length_nil, Nat.lt_irrefl, decide_false, br_false, List.length_cons, Nat.zero_lt_succ, decide_true, br_true, inL0, rd0 (e := tUndo), hr, inS_tail, piece_tail]
    rw [tjoin_l k h3 n [] b _ (by simp only [List.length_nil]; omega) (by simp only [app, List.length_append, List.length_cons, List.length_nil]; omega), joinU_nil, joinU_nil]
    simp [app]
  | n + 1, y :: a, [], x, h, hx => by
    simp only [List.length_nil, List.length_cons, Nat.add_zero] at h hx
    have hr : room x (y :: []) = true := room_le (by simp only [List.length_cons, List.length_nil]; omega)
    have e0 : (a.length + 1 = 0) = False := by simp
    rw [tally_Join.l2_eq]
    simp only [ilt0, ieq0, e0, List.length_nil, Nat.lt_irrefl, decide_false, br_false, List.length_cons, Nat.zero_lt_succ, decide_true, br_true, inL0, rd0 (e := tUndo), hr, inS_tail, piece_tail]
    rw [tjoin_l k h3 n a [] _ (by simp only [List.length_nil]; omega) (by simp only [app, List.length_append, List.length_cons, List.length_nil]; omega), joinU_nil', joinU_nil']
    simp [app]
  | n + 1, u :: a, v :: b, x, h, hx => by
    simp only [List.length_cons] at h hx
    have hr : ∀ y : Undo, room x (y :: []) = true := fun y => room_le (by simp only [List.length_cons, List.length_nil]; omega)
    have e0 : (a.length + 1 = 0) = False := by simp
    have e1 : (b.length + 1 = 0) = False := by simp
    rw [tally_Join.l2_eq, joinU_cons]
    simp only [ilt0, ieq0, e0, e1, decide_false, br_false, List.length_cons, Nat.zero_lt_succ, decide_true, br_true, inL0, rd0 (e := tUndo), hr, inS_tail, piece_tail, tcmp_is k _ _ h3, bnd_some, cmp_lt0, cmp_gt0, imax_is]
    cases h1 : dotLt u.1 v.1 with
    | true =>
      simp only [br_true, if_true]
      rw [tjoin_l k h3 n a (v :: b) _ (by simp only [List.length_cons]; omega) (by simp only [app, List.length_append, List.length_cons, List.length_nil]; omega)]
      simp [app]
    | false =>
      cases h2 : dotLt v.1 u.1 with
      | true =>
        simp only [br_true, br_false, if_true]
        rw [tjoin_l k h3 n (u :: a) b _ (by simp only [List.length_cons]; omega) (by simp only [app, List.length_append, List.length_cons, List.length_nil]; omega)]
        simp [app]
      | false =>
        simp only [br_false]
        rw [tjoin_l k h3 n a b _ (by omega) (by simp only [app, List.length_append, List.length_cons, List.length_nil]; omega)]
        simp [app]
theorem tjoin_is (k : Nat) (a b : List Undo) (h3 : 3 ≤ k) (hl : a.length + b.length < k) (hk : k < 1000000) : tally_Join.f k a b = some (joinU a b) := by
  rw [tally_Join.f_eq, tjoin_l k h3 k a b [] hl (by simp only [List.length_nil]; omega)]; rfl
theorem rsameU_is (k : Nat) (a b : List Undo) (hl : a.length < k) (hk : k < 1000000) : ref08_Same.f k a b = some (decide (a = b)) := by
  rw [ref08_Same.f_eq, ieq_len, bnot_dec]
  by_cases h : a.length = b.length
  · simp only [h, not_true, decide_false, br_false]
    exact loop_same a b h (fun n i => ref08_Same.l4 k n a b (i : Int)) (fun n i hi hi' => by
      simp only [ref08_Same.l4_eq, ilt_nat, inL_nat, natOf_nat, hi, hi', decide_true, br_true, rd_at' (e := tUndo) hi, rd_at' (e := tUndo) hi', deqU, bnot_dec, br_dec, iadd_nat (show i < 4611686018427387904 by omega)]
      by_cases e : a[i] = b[i] <;> simp [e]) (fun n => by simp only [ref08_Same.l4_eq, ilt_nat, Nat.lt_irrefl, decide_false, br_false]) k (by omega)
  · have : a ≠ b := fun e => h (by rw [e])
    simp only [h, this, not_false_eq_true, decide_true, decide_false, br_true]
end Go.Proofs.YthghlnmihipeoaaGreatDoor
end
section
/- States: what the program's functions, and the document's, come to. -/
namespace Go.Proofs.YthghlnmihipeoaaGreatDoor
open Pal
theorem cmpD_eq0 (a b : Dot) : ieq (cmpD a b) 0 = decide (a = b) := by
  rw [ieq_dec]; exact decide_eq_decide.2 (cmpD_eq a b)
def FoundT (l : List Txn) (d : Dot) (p : Nat) (b : Bool) : Prop :=
  p ≤ l.length ∧ (∀ t (h : t < l.length), t < p → dotLt l[t].1 d = true) ∧ (∀ t (h : t < l.length), p ≤ t → dotLt l[t].1 d = false) ∧ b = (findT l d).isSome
theorem bsT_find (k : Nat) (l : List Txn) (d : Dot) (h3 : 3 ≤ k) (hl : l.length < k) (hk : k < 1000000) (hs : CanT l) : ∃ p b, FoundT l d p b ∧ slices_BinarySearchFunc_api_Txn_api_Txn_api_Dot_txn_Find_1.f k l d = some ((p : Int), b) := by
  obtain ⟨q, rfl⟩ : ∃ q, k = q + 3 := ⟨k - 3, by omega⟩
  rw [slices_BinarySearchFunc_api_Txn_api_Txn_api_Dot_txn_Find_1.f_eq]
  obtain ⟨p, h1, h2, h4, h5⟩ := bs_gen l (fun t => dotLt t.1 d) (hs.srt.imp fun {a b} hab hb => dotLt_trans hab hb) (fun n i j => slices_BinarySearchFunc_api_Txn_api_Txn_api_Dot_txn_Find_1.l3 (q + 3) n l (ilen l) (i : Int) (j : Int) d) (fun p => some ((p : Int), match l[p]? with | some t => decide (t.1 = d) | none => false)) (fun n i j hij hj hm => by
    have e1 : ilt (i : Int) (j : Int) = decide (i < j) := ilt_nn i j
    have e3 : iadd .i64 (((i + j) / 2 : Nat) : Int) 1 = (((i + j) / 2 + 1 : Nat) : Int) := iadd_nat (by omega)
    simp only [slices_BinarySearchFunc_api_Txn_api_Txn_api_Dot_txn_Find_1.l3_eq, e1, mid_is (show i + j < 1000000000 by omega), hij, decide_true, br_true, inL_nat, natOf_nat, hm, rd_at' (e := tTxn) hm, txn_Find_1.f_eq, cmpD_is, bnd_some, cmp_lt0, e3]
    cases dotLt l[(i + j) / 2].1 d <;> rfl) (fun n i hi => by
    have e1 : ilt (i : Int) (i : Int) = false := decide_eq_false (by omega)
    simp only [slices_BinarySearchFunc_api_Txn_api_Txn_api_Dot_txn_Find_1.l3_eq, e1, br_false, ilt_nat, inL_nat, natOf_nat]
    by_cases h : i < l.length
    · simp only [h, decide_true, br_true, rd_at' (e := tTxn) h, txn_Find_1.f_eq, cmpD_is, bnd_some, cmpD_eq0, List.getElem?_eq_getElem h]
    · simp only [h, decide_false, br_false, List.getElem?_eq_none (show l.length ≤ i by omega)]) (q + 3) 0 l.length (by omega) (Nat.le_refl _) (by omega) (fun t _ h => by omega) (fun t h h' => by omega)
  refine ⟨p, _, ⟨h1, h2, h4, ?_⟩, h5⟩
  rw [Bool.eq_iff_iff, findT_is]
  constructor
  · intro h
    split at h
    · rename_i t ht
      exact ⟨t, List.mem_of_getElem? ht, of_decide_eq_true h⟩
    · cases h
  · rintro ⟨t, ht, hd⟩
    obtain ⟨j, hj, rfl⟩ := List.mem_iff_getElem.1 ht
    have hpj : ¬ j < p := fun hh => by have := h2 j hj hh; rw [hd, dotLt_swo.irrefl] at this; cases this
    have hjp : ¬ p < j := fun hh => by
      have hlt := List.pairwise_iff_getElem.1 hs.srt p j (by omega) hj hh
      rw [hd] at hlt
      have := h4 p (by omega) (Nat.le_refl _)
      rw [hlt] at this; cases this
    have : j = p := by omega
    subst this
    rw [List.getElem?_eq_getElem hj]; exact decide_eq_true hd
theorem bsT_put (k : Nat) (l : List Txn) (d : Dot) (h3 : 3 ≤ k) (hl : l.length < k) (hk : k < 1000000) (hs : CanT l) : ∃ p b, FoundT l d p b ∧ slices_BinarySearchFunc_api_Txn_api_Txn_api_Dot_txn_Put_1.f k l d = some ((p : Int), b) := by
  obtain ⟨q, rfl⟩ : ∃ q, k = q + 3 := ⟨k - 3, by omega⟩
  rw [slices_BinarySearchFunc_api_Txn_api_Txn_api_Dot_txn_Put_1.f_eq]
  obtain ⟨p, h1, h2, h4, h5⟩ := bs_gen l (fun t => dotLt t.1 d) (hs.srt.imp fun {a b} hab hb => dotLt_trans hab hb) (fun n i j => slices_BinarySearchFunc_api_Txn_api_Txn_api_Dot_txn_Put_1.l3 (q + 3) n l (ilen l) (i : Int) (j : Int) d) (fun p => some ((p : Int), match l[p]? with | some t => decide (t.1 = d) | none => false)) (fun n i j hij hj hm => by
    have e1 : ilt (i : Int) (j : Int) = decide (i < j) := ilt_nn i j
    have e3 : iadd .i64 (((i + j) / 2 : Nat) : Int) 1 = (((i + j) / 2 + 1 : Nat) : Int) := iadd_nat (by omega)
    simp only [slices_BinarySearchFunc_api_Txn_api_Txn_api_Dot_txn_Put_1.l3_eq, e1, mid_is (show i + j < 1000000000 by omega), hij, decide_true, br_true, inL_nat, natOf_nat, hm, rd_at' (e := tTxn) hm, txn_Put_1.f_eq, cmpD_is, bnd_some, cmp_lt0, e3]
    cases dotLt l[(i + j) / 2].1 d <;> rfl) (fun n i hi => by
    have e1 : ilt (i : Int) (i : Int) = false := decide_eq_false (by omega)
    simp only [slices_BinarySearchFunc_api_Txn_api_Txn_api_Dot_txn_Put_1.l3_eq, e1, br_false, ilt_nat, inL_nat, natOf_nat]
    by_cases h : i < l.length
    · simp only [h, decide_true, br_true, rd_at' (e := tTxn) h, txn_Put_1.f_eq, cmpD_is, bnd_some, cmpD_eq0, List.getElem?_eq_getElem h]
    · simp only [h, decide_false, br_false, List.getElem?_eq_none (show l.length ≤ i by omega)]) (q + 3) 0 l.length (by omega) (Nat.le_refl _) (by omega) (fun t _ h => by omega) (fun t h h' => by omega)
  refine ⟨p, _, ⟨h1, h2, h4, ?_⟩, h5⟩
  rw [Bool.eq_iff_iff, findT_is]
  constructor
  · intro h
    split at h
    · rename_i t ht
      exact ⟨t, List.mem_of_getElem? ht, of_decide_eq_true h⟩
    · cases h
  · rintro ⟨t, ht, hd⟩
    obtain ⟨j, hj, rfl⟩ := List.mem_iff_getElem.1 ht
    have hpj : ¬ j < p := fun hh => by have := h2 j hj hh; rw [hd, dotLt_swo.irrefl] at this; cases this
    have hjp : ¬ p < j := fun hh => by
      have hlt := List.pairwise_iff_getElem.1 hs.srt p j (by omega) hj hh
      rw [hd] at hlt
      have := h4 p (by omega) (Nat.le_refl _)
      rw [hlt] at this; cases this
    have : j = p := by omega
    subst this
    rw [List.getElem?_eq_getElem hj]; exact decide_eq_true hd
theorem find_is (k : Nat) (l : List Txn) (d : Dot) (h3 : 3 ≤ k) (hl : l.length < k) (hk : k < 1000000) (hs : CanT l) : ∃ r : Int, txn_Find.f k l d = some r ∧ (0 ≤ r ↔ (findT l d).isSome = true) := by
  obtain ⟨p, b, hf, h⟩ := bsT_find k l d h3 hl hk hs
  rw [txn_Find.f_eq, h]
  simp only [bnd_some]
  have hb := hf.2.2.2
  cases b with
  | true => exact ⟨(p : Int), rfl, ⟨fun _ => hb.symm, fun _ => by omega⟩⟩
  | false => exact ⟨-1, rfl, ⟨fun h => by omega, fun h => by rw [← hb] at h; cases h⟩⟩
theorem tput_is (k : Nat) (l : List Txn) (t : Txn) (h3 : 3 ≤ k) (hl : l.length + 1 < k) (hk : k < 1000000) (hs : CanT l) (ht : rightD t.1 = true) : txn_Put.f k l t = some (if (findT l t.1).isSome then l else insT t l) := by
  obtain ⟨p, b, hf, h⟩ := bsT_put k l t.1 h3 (by omega) hk hs
  rw [txn_Put.f_eq, h]
  simp only [bnd_some]
  have hb := hf.2.2.2
  rw [← hb]
  cases b with
  | true => rfl
  | false =>
    have hn : ∀ x ∈ l, x.1 ≠ t.1 := findT_none.1 (by cases hq : findT l t.1 with
      | none => rfl
      | some x => rw [hq] at hb; cases hb)
    have r1 : room ([] : List Int) l = true := room_le (by simp only [List.length_nil]; omega)
    have r2 : room l (t :: []) = true := room_le (by simp only [List.length_cons, List.length_nil]; omega)
    have hin : inS 0 (p : Int) (ilen l) = true := by
      have h1 : (p : Int) ≤ (l.length : Int) := by have := hf.1; omega
      show (decide ((0 : Int) ≤ 0) && decide ((0 : Int) ≤ (p : Int)) && decide ((p : Int) ≤ (l.length : Int))) = true
      rw [decide_eq_true h1, decide_eq_true (show (0 : Int) ≤ (p : Int) by omega)]; rfl
    rw [r1, r2, hin]
    simp only [br_true, br_false]
    rw [insAt_insT hs ht hn hf.1 hf.2.1 hf.2.2.1]; rfl
theorem sput_is (k : Nat) (s : Sta) (t : Txn) {n : Nat} (h3 : 3 ≤ k) (ls : LenS n s) (hl : n + 1 < k) (hk : k < 1000000) (hs : CanS s) (ht : rightD t.1 = true) : state_Put.f k s t = some (putS s t) := by
  have := ls.tx; have := ls.kn
  obtain ⟨r, hr, hri⟩ := find_is k s.1 t.1 h3 (by omega) hk hs.tx
  rw [state_Put.f_eq, hr]
  simp only [bnd_some]
  unfold putS
  by_cases hf : (findT s.1 t.1).isSome = true
  · rw [if_pos hf]
    have e : ile 0 r = true := decide_eq_true (hri.2 hf)
    rw [e]; rfl
  · rw [if_neg hf]
    have e : ile 0 r = false := decide_eq_false (fun h => hf (hri.1 h))
    rw [e, tput_is k s.1 t h3 (by omega) hk hs.tx ht, put_is k s.2.2.1 t.1 h3 (by omega) hk hs.kn, if_neg hf]
    rfl
theorem sraise_is (k : Nat) (s : Sta) (l : List (Dot × Int)) {n m : Nat} (h3 : 3 ≤ k) (ls : LenS n s) (hl : l.length ≤ m) (hnm : n + m < k) (hk : k < 1000000) : state_Raise.f k s l = some (raiseS s l) := by
  have := ls.un
  rw [state_Raise.f_eq, tjoin_is k s.2.1 l h3 (by omega) hk]; rfl
theorem sseal_is (k : Nat) (s : Sta) (l : List Dot) {n m : Nat} (h17 : 17 < k) (hs : CanS s) (ls : LenS n s) (hl : l.length ≤ m) (hnm : n + m < k) (hk : k < 1000000) : state_Seal.f k s l = some (sealS s l) := by
  have := ls.se
  obtain ⟨c1, _, c3⟩ := ofD_can l
  rw [state_Seal.f_eq, of_is k l (by omega) hk]
  simp only [bnd_some]
  rw [union_is k s.2.2.2.1 (ofD l) hs.se c1 (by omega) h17 hk]; rfl
theorem deqVal (a b : Val) : deq tValue a b = decide (a = b) := deq_dec (τ := tValue) rfl a b
theorem rsameStr_is (k : Nat) (a b : List Str) (hl : a.length < k) (hk : k < 1000000) : ref03_Same.f k a b = some (decide (a = b)) := by
  rw [ref03_Same.f_eq, ieq_len, bnot_dec]
  by_cases h : a.length = b.length
  · simp only [h, not_true, decide_false, br_false]
    exact loop_same a b h (fun n i => ref03_Same.l4 k n a b (i : Int)) (fun n i hi hi' => by
      simp only [ref03_Same.l4_eq, ilt_nat, inL_nat, natOf_nat, hi, hi', decide_true, br_true, rd_at' (e := .str) hi, rd_at' (e := .str) hi', seq_dec, bnot_dec, br_dec, iadd_nat (show i < 4611686018427387904 by omega)]
      by_cases e : a[i] = b[i] <;> simp [e]) (fun n => by simp only [ref03_Same.l4_eq, ilt_nat, Nat.lt_irrefl, decide_false, br_false]) k (by omega)
  · have : a ≠ b := fun e => h (by rw [e])
    simp only [h, this, not_false_eq_true, decide_true, decide_false, br_true]
theorem op_eq (a b : Op) : a = b ↔ a.1 = b.1 ∧ a.2.2.1 = b.2.2.1 ∧ a.2.2.2.1 = b.2.2.2.1 ∧ a.2.1 = b.2.1 ∧ a.2.2.2.2 = b.2.2.2.2 := by
  obtain ⟨a1, a2, a3, a4, a5⟩ := a; obtain ⟨b1, b2, b3, b4, b5⟩ := b
  simp only [Prod.mk.injEq]
  exact ⟨fun ⟨h1, h2, h3, h4, h5⟩ => ⟨h1, h3, h4, h2, h5⟩, fun ⟨h1, h3, h4, h2, h5⟩ => ⟨h1, h2, h3, h4, h5⟩⟩
structure LenO (n : Nat) (o : Op) : Prop where
  path : o.2.1.length < n
  seen : o.2.2.2.2.length < n
theorem rsameOp_is (k : Nat) (a b : Op) (hl : LenO k a) (hk : k < 1000000) : ref11_Same.f k a b = some (decide (a = b)) := by
  have := hl.seen
  rw [ref11_Same.f_eq, rsameStr_is k a.2.1 b.2.1 hl.path hk]
  simp only [ieq_dec, deqVal, bnot_dec, bnd_some, br_dec, ilen, Int.natCast_inj]
  rw [show decide (a = b) = decide (a.1 = b.1 ∧ a.2.2.1 = b.2.2.1 ∧ a.2.2.2.1 = b.2.2.2.1 ∧ a.2.1 = b.2.1 ∧ a.2.2.2.2 = b.2.2.2.2) from decide_eq_decide.2 (op_eq a b)]
  by_cases h1 : a.1 = b.1
  · by_cases h2 : a.2.2.1 = b.2.2.1
    · by_cases h3 : a.2.2.2.1 = b.2.2.2.1
      · by_cases h4 : a.2.1 = b.2.1
        · by_cases h5 : a.2.2.2.2.length = b.2.2.2.2.length
          · simp only [h1, h2, h3, h4, h5, not_true, if_false, true_and]
            exact loop_same a.2.2.2.2 b.2.2.2.2 h5 (fun n i => ref11_Same.l4 k n (i : Int) a b) (fun n i hi hi' => by
              simp only [ref11_Same.l4_eq, ilt_nat, inL_nat, natOf_nat, hi, hi', decide_true, br_true, rd_at' (e := tUndo) hi, rd_at' (e := tUndo) hi', deqU, bnot_dec, br_dec, iadd_nat (show i < 4611686018427387904 by omega)]
              by_cases e : a.2.2.2.2[i] = b.2.2.2.2[i] <;> simp [e]) (fun n => by simp only [ref11_Same.l4_eq, ilt_nat, Nat.lt_irrefl, decide_false, br_false]) k (by omega)
          · have : a.2.2.2.2 ≠ b.2.2.2.2 := fun e => h5 (by rw [e])
            simp [h1, h2, h3, h4, h5, this]
        · simp [h1, h2, h3, h4]
      · simp [h1, h2, h3]
    · simp [h1, h2]
  · simp [h1]
theorem deqDot (a b : Dot) : deq tDot a b = decide (a = b) := deqD a b
theorem deqBool (a b : Bool) : deq .bool a b = decide (a = b) := by cases a <;> cases b <;> rfl
theorem txn_eq (a b : Txn) : a = b ↔ a.1 = b.1 ∧ a.2.1 = b.2.1 ∧ a.2.2.1 = b.2.2.1 ∧ a.2.2.2.1 = b.2.2.2.1 ∧ a.2.2.2.2 = b.2.2.2.2 := by
  obtain ⟨a1, a2, a3, a4, a5⟩ := a; obtain ⟨b1, b2, b3, b4, b5⟩ := b
  simp only [Prod.mk.injEq]
structure LenT (n : Nat) (t : Txn) : Prop where
  ops : t.2.2.2.2.length < n
  each : ∀ o ∈ t.2.2.2.2, LenO n o
theorem rsameTxn_is (k : Nat) (a b : Txn) (hl : LenT k a) (hk : k < 1000000) : ref12_Same.f k a b = some (decide (a = b)) := by
  have := hl.ops
  rw [ref12_Same.f_eq]
  simp only [ieq_dec, deqDot, deqBool, bnot_dec, bnd_some, br_dec, ilen, Int.natCast_inj]
  rw [show decide (a = b) = decide (a.1 = b.1 ∧ a.2.1 = b.2.1 ∧ a.2.2.1 = b.2.2.1 ∧ a.2.2.2.1 = b.2.2.2.1 ∧ a.2.2.2.2 = b.2.2.2.2) from decide_eq_decide.2 (txn_eq a b)]
  by_cases h1 : a.1 = b.1
  · by_cases h2 : a.2.1 = b.2.1
    · by_cases h3 : a.2.2.1 = b.2.2.1
      · by_cases h4 : a.2.2.2.1 = b.2.2.2.1
        · by_cases h5 : a.2.2.2.2.length = b.2.2.2.2.length
          · simp only [h1, h2, h3, h4, h5, not_true, if_false, true_and]
            exact loop_same a.2.2.2.2 b.2.2.2.2 h5 (fun n i => ref12_Same.l4 k n (i : Int) a b) (fun n i hi hi' => by
              simp only [ref12_Same.l4_eq, ilt_nat, inL_nat, natOf_nat, hi, hi', decide_true, br_true, rd_at' (e := tOp) hi, rd_at' (e := tOp) hi', rsameOp_is k _ _ (hl.each _ (List.getElem_mem hi)) hk, bnd_some, bnot_dec, br_dec, iadd_nat (show i < 4611686018427387904 by omega)]
              by_cases e : a.2.2.2.2[i] = b.2.2.2.2[i] <;> simp [e]) (fun n => by simp only [ref12_Same.l4_eq, ilt_nat, Nat.lt_irrefl, decide_false, br_false]) k (by omega)
          · have : a.2.2.2.2 ≠ b.2.2.2.2 := fun e => h5 (by rw [e])
            simp [h1, h2, h3, h4, h5, this]
        · simp [h1, h2, h3, h4]
      · simp [h1, h2, h3]
    · simp [h1, h2]
  · simp [h1]
theorem rallTxn_is (k : Nat) (a b : List Txn) (hl : a.length < k) (he : ∀ t ∈ a, LenT k t) (hk : k < 1000000) : ref12_All.f k a b = some (decide (a = b)) := by
  rw [ref12_All.f_eq, ieq_len, bnot_dec]
  by_cases h : a.length = b.length
  · simp only [h, not_true, decide_false, br_false]
    exact loop_same a b h (fun n i => ref12_All.l4 k n a b (i : Int)) (fun n i hi hi' => by
      simp only [ref12_All.l4_eq, ilt_nat, inL_nat, natOf_nat, hi, hi', decide_true, br_true, rd_at' (e := tTxn) hi, rd_at' (e := tTxn) hi', rsameTxn_is k _ _ (he _ (List.getElem_mem hi)) hk, bnd_some, bnot_dec, br_dec, iadd_nat (show i < 4611686018427387904 by omega)]
      by_cases e : a[i] = b[i] <;> simp [e]) (fun n => by simp only [ref12_All.l4_eq, ilt_nat, Nat.lt_irrefl, decide_false, br_false]) k (by omega)
  · have : a ≠ b := fun e => h (by rw [e])
    simp only [h, this, not_false_eq_true, decide_true, decide_false, br_true]
theorem sta_ext (s u : Sta) (hs : s.2.2.2.2.length = 8) (hu : u.2.2.2.2.length = 8) : s = u ↔ (∀ i, 0 ≤ i → i < 8 → s.2.2.2.2[i]? = u.2.2.2.2[i]?) ∧ s.1 = u.1 ∧ s.2.1 = u.2.1 ∧ s.2.2.1 = u.2.2.1 ∧ s.2.2.2.1 = u.2.2.2.1 := by
  obtain ⟨a1, a2, a3, a4, a5⟩ := s; obtain ⟨b1, b2, b3, b4, b5⟩ := u
  simp only at hs hu ⊢
  constructor
  · intro h; injection h with h1 h; injection h with h2 h; injection h with h3 h; injection h with h4 h5
    exact ⟨fun i _ _ => by rw [h5], h1, h2, h3, h4⟩
  · rintro ⟨h5, h1, h2, h3, h4⟩
    have : a5 = b5 := List.ext_getElem? fun i => by
      by_cases hi : i < 8
      · exact h5 i (by omega) hi
      · rw [List.getElem?_eq_none (by omega), List.getElem?_eq_none (by omega)]
    rw [h1, h2, h3, h4, this]
theorem rsameS_is (k : Nat) (s u : Sta) {n : Nat} (ls : LenS n s) (he : ∀ t ∈ s.1, LenT k t) (hs : s.2.2.2.2.length = 8) (hu : u.2.2.2.2.length = 8) (hn : n < k) (h17 : 17 < k) (hk : k < 1000000) : ∃ b, ref22_Same.f k s u = some b ∧ (b = true ↔ s = u) := by
  have := ls.tx; have := ls.un; have := ls.kn; have := ls.se
  rw [ref22_Same.f_eq]
  obtain ⟨b, hb, hbi⟩ := loop_all 8 (fun n i => ref22_Same.l2 k n (i : Int) s u) (fun i => s.2.2.2.2[i]? = u.2.2.2.2[i]?) (fun n' i hi => by
    have e1 : ilt (i : Int) 8 = decide (i < 8) := ilt_nn i 8
    have e2 : inB (i : Int) 8 = decide (i < 8) := inB_nat i 8
    have hi1 : i < s.2.2.2.2.length := by omega
    have hi2 : i < u.2.2.2.2.length := by omega
    have hlen := ls.re _ (List.getElem_mem hi1)
    have e3 : iadd .i64 (i : Int) 1 = ((i + 1 : Nat) : Int) := iadd_nat (by omega)
    simp only [ref22_Same.l2_eq, e1, e2, hi, decide_true, br_true, natOf_nat, rd_at' (e := .slc tDot) hi1, rd_at' (e := .slc tDot) hi2, reqD k _ _ (show (s.2.2.2.2[i]).length < k by omega) hk, bnd_some, bnot_dec, br_dec, e3]
    by_cases h : s.2.2.2.2[i] = u.2.2.2.2[i]
    · exact .inl ⟨by rw [List.getElem?_eq_getElem hi1, List.getElem?_eq_getElem hi2, h], if_neg (by simpa using h)⟩
    · exact .inr ⟨fun hh => by rw [List.getElem?_eq_getElem hi1, List.getElem?_eq_getElem hi2] at hh; exact h (Option.some.inj hh), if_pos h⟩)
    (some (decide (s.1 = u.1 ∧ s.2.1 = u.2.1 ∧ s.2.2.1 = u.2.2.1 ∧ s.2.2.2.1 = u.2.2.2.1))) (s.1 = u.1 ∧ s.2.1 = u.2.1 ∧ s.2.2.1 = u.2.2.1 ∧ s.2.2.2.1 = u.2.2.2.1) ⟨_, rfl, by simp⟩ (fun n' => by
    have e1 : ilt ((8 : Nat) : Int) 8 = false := rfl
    simp only [ref22_Same.l2_eq, e1, br_false, rallTxn_is k s.1 u.1 (by omega) he hk, rsameU_is k s.2.1 u.2.1 (by omega) hk, rsame_is k s.2.2.1 u.2.2.1 (by omega) hk, rsame_is k s.2.2.2.1 u.2.2.2.1 (by omega) hk, bnd_some, br_dec]
    by_cases h1 : s.1 = u.1 <;> by_cases h2 : s.2.1 = u.2.1 <;> by_cases h3 : s.2.2.1 = u.2.2.1 <;> simp [h1, h2, h3]) k 0 (by omega) (by omega)
  exact ⟨b, hb, hbi.trans (sta_ext s u hs hu).symm⟩
end Go.Proofs.YthghlnmihipeoaaGreatDoor
end
section
/- Which states and deltas the document calls good: what is known of them. -/
namespace Go.Proofs.YthghlnmihipeoaaGreatDoor
open Pal
def risAt (l : List Txn) (j : Nat) : Prop := ∀ h : j + 1 < l.length, dotLt (l[j]'(by omega)).1 l[j + 1].1 = true
theorem ris_iff {l : List Txn} : l.Pairwise (fun a b => dotLt a.1 b.1 = true) ↔ ∀ j, 0 ≤ j → j < l.length - 1 → risAt l j := by
  constructor
  · intro h j h1 h2 hj
    exact List.pairwise_iff_getElem.1 h j (j + 1) (by omega) hj (by omega)
  · intro h
    refine List.pairwise_iff_getElem.2 fun i j hi hj hij => ?_
    have key : ∀ d i (hd : i + d + 1 < l.length), dotLt (l[i]'(by omega)).1 l[i + d + 1].1 = true := by
      intro d
      induction d with
      | zero => intro i hd; exact h i (by omega) (by omega) hd
      | succ d ih =>
        intro i hd
        exact dotLt_trans (ih i (by omega)) (h (i + d + 1) (by omega) (by omega) (by omega))
    have := key (j - i - 1) i (by omega)
    have e : i + (j - i - 1) + 1 = j := by omega
    simpa only [e] using this
theorem rrises_is (k : Nat) (l : List Txn) (hl : l.length < k) (hk : k < 1000000) : ∃ b, ref12_Rises.f k l = some b ∧ (b = true ↔ l.Pairwise (fun a b => dotLt a.1 b.1 = true)) := by
  rw [ref12_Rises.f_eq]
  obtain ⟨b, hb, hbi⟩ := loop_all' (l.length - 1) (fun n i => ref12_Rises.l2 k n l ((i + 1 : Nat) : Int)) (risAt l) (fun n i hi => by
    have hi0 : i < l.length := by omega
    have hi1 : i + 1 < l.length := by omega
    have e3 : isub .i64 ((i + 1 : Nat) : Int) 1 = (i : Int) := by rw [isub_s (by omega) (by omega) (by omega) (by omega)]; omega
    have e4 : iadd .i64 ((i + 1 : Nat) : Int) 1 = ((i + 1 + 1 : Nat) : Int) := iadd_nat (by omega)
    simp only [ref12_Rises.l2_eq, ilt_nat, e3, inL_nat, natOf_nat, hi0, hi1, decide_true, br_true, rd_at' (e := tTxn) hi0, rd_at' (e := tTxn) hi1, rcmp_is, bnd_some, cmp_m1, e4]
    cases hd : dotLt l[i].1 l[i + 1].1 with
    | true => exact .inl ⟨fun _ => hd, rfl⟩
    | false => exact .inr ⟨fun h => (by have := h hi1; rw [hd] at this; cases this), rfl⟩) (fun n => by
    simp only [ref12_Rises.l2_eq, ilt_nat, show ¬ l.length - 1 + 1 < l.length by omega, decide_false, br_false]) k 0 (by omega) (by omega)
  exact ⟨b, hb, hbi.trans ris_iff.symm⟩
def emptyD : DSet := (zarr 16 0, [])
theorem empty_can : Can emptyD := (ofD_can []).1
theorem empty_mem (x : Dot) : ¬ Mem emptyD x := fun h => by
  have := ((ofD_can []).2.1 x).1 h
  simp at this
def dotsOf (l : List Txn) : List Dot := l.map (·.1)
theorem known_is (k : Nat) (l : List Txn) (hl : l.length + 1 < k) (hk : k < 1000000) (hr : ∀ t ∈ l, rightD t.1 = true) : ref22_Known.f k l = some ((dotsOf l).foldl putD emptyD) := by
  rw [ref22_Known.f_eq]
  have key : ∀ n i (s : DSet), i ≤ l.length → l.length < n + i → Can s → s.2.length ≤ i → ref22_Known.l3 k n l (i : Int) (zarr 16 0) [] s = some ((dotsOf (l.drop i)).foldl putD s) := by
    intro n
    induction n with
    | zero => intro i s h h'; omega
    | succ n ih =>
      intro i s h h' hs hsl
      rw [ref22_Known.l3_eq, ilt_nat, inL_nat, natOf_nat]
      by_cases hi : i < l.length
      · have e3 : iadd .i64 (i : Int) 1 = ((i + 1 : Nat) : Int) := iadd_nat (by omega)
        rw [rd_at' (e := tTxn) hi, rput_is k s l[i].1 (by omega) hk hs, e3, List.drop_eq_getElem_cons hi]
        simp only [hi, decide_true, br_true, bnd_some, dotsOf, List.map_cons, List.foldl_cons]
        obtain ⟨a, _, c⟩ := putD_can hs l[i].1
        exact ih (i + 1) _ (by omega) (by omega) a (by omega)
      · rw [List.drop_of_length_le (by omega)]
        simp only [hi, decide_false, br_false, dotsOf, List.map_nil, List.foldl_nil]
  exact key k 0 emptyD (by omega) (by omega) empty_can (by simp [emptyD])
theorem known_mem {l : List Txn} (hr : ∀ t ∈ l, rightD t.1 = true) : Can ((dotsOf l).foldl putD emptyD) ∧ (∀ x, Mem ((dotsOf l).foldl putD emptyD) x ↔ ∃ t ∈ l, t.1 = x) ∧ ((dotsOf l).foldl putD emptyD).2.length ≤ l.length := by
  obtain ⟨p, q, r⟩ := puts_can (dotsOf l) emptyD empty_can (fun d hd => by
    obtain ⟨t, ht, rfl⟩ := List.mem_map.1 hd; exact hr t ht)
  refine ⟨p, fun x => ?_, ?_⟩
  · rw [q]
    constructor
    · rintro (h | h)
      · exact absurd h (empty_mem x)
      · obtain ⟨t, ht, rfl⟩ := List.mem_map.1 h; exact ⟨t, ht, rfl⟩
    · rintro ⟨t, ht, rfl⟩; exact .inr (List.mem_map.2 ⟨t, ht, rfl⟩)
  · have : (dotsOf l).length = l.length := by simp [dotsOf]
    have e0 : emptyD.2.length = 0 := rfl
    omega
structure RightS (k : Nat) (s : Sta) : Prop where
  many : s.1.length ≤ 1000
  ris : s.1.Pairwise (fun a b => dotLt a.1 b.1 = true)
  un : CanU s.2.1
  se : Can s.2.2.2.1 ∧ s.2.2.2.1.2.length ≤ 4096
  chk : ∀ t ∈ s.1, ref12_Check.f k t = some 0
  redo : ∀ l ∈ s.2.2.2.2, l.length ≤ 1000 ∧ ∀ d ∈ l, rightD d = true
  kn : Can s.2.2.1 ∧ s.2.2.1.2.length ≤ 4096
  know : s.2.2.1 = (dotsOf s.1).foldl putD emptyD
def chkAt (k : Nat) (l : List Txn) (j : Nat) : Prop := ∀ h : j < l.length, ref12_Check.f k l[j] = some 0
def redoAt (r : List (List Dot)) (j : Nat) : Prop := ∀ h : j < r.length, r[j].length ≤ 1000 ∧ ∀ d ∈ r[j], rightD d = true
def rdAt (l : List Dot) (j : Nat) : Prop := ∀ h : j < l.length, rightD l[j] = true
theorem rdAt_all {l : List Dot} : (∀ j, 0 ≤ j → j < l.length → rdAt l j) ↔ ∀ d ∈ l, rightD d = true := by
  constructor
  · intro h d hd
    obtain ⟨j, hj, rfl⟩ := List.mem_iff_getElem.1 hd
    exact h j (by omega) hj hj
  · intro h j _ hj _; exact h _ (List.getElem_mem hj)
theorem rrightS_is (k : Nat) (s : Sta) (hv1 : s.2.2.1.1.length = 16) (hv2 : s.2.2.2.1.1.length = 16) (hr8 : s.2.2.2.2.length = 8) (hsh : ∀ t ∈ s.1, ShortT t) (hrl : ∀ l ∈ s.2.2.2.2, l.length < k) (hul : s.2.1.length < k) (hk : 5000 < k) (hk2 : k < 1000000) :
    ∃ b, ref22_Right.f k s = some b ∧ (b = true ↔ RightS k s) := by
  rw [ref22_Right.f_eq, show ilt 1000 (ilen s.1) = decide (1000 < s.1.length) from ilt_lenR 1000 s.1]
  by_cases hm : 1000 < s.1.length
  · rw [decide_eq_true hm]; exact ⟨false, rfl, ⟨fun h => (by cases h), fun h => by have := h.many; omega⟩⟩
  rw [decide_eq_false hm]
  obtain ⟨b1, g1, i1⟩ := rrises_is k s.1 (by omega) hk2
  obtain ⟨b2, g2, i2⟩ := rrightU_is k s.2.1 hul hk2
  obtain ⟨b3, g3, i3⟩ := rr_is k s.2.2.2.1 hv2 hk hk2
  obtain ⟨b4, g4, i4⟩ := rr_is k s.2.2.1 hv1 hk hk2
  rw [g1]
  simp only [br_false, bnd_some]
  cases b1 with
  | false => exact ⟨false, rfl, ⟨fun h => (by cases h), fun h => i1.2 h.ris⟩⟩
  | true =>
  have bt : bnot true = false := rfl
  have bf : bnot false = true := rfl
  rw [bt, g2]
  simp only [br_false, bnd_some]
  cases b2 with
  | false => exact ⟨false, rfl, ⟨fun h => (by cases h), fun h => i2.2 h.un⟩⟩
  | true =>
  rw [bt, g3]
  simp only [br_false, bnd_some]
  cases b3 with
  | false => exact ⟨false, rfl, ⟨fun h => (by cases h), fun h => i3.2 h.se⟩⟩
  | true =>
  rw [bt]
  simp only [br_false]
  have tail : (∀ t ∈ s.1, rightD t.1 = true) → ∃ b, (bnd (ref06_Right.f k s.2.2.1) fun r0 => br r0 (bnd (ref22_Known.f k s.1) fun r1 => bnd (ref06_Same.f k s.2.2.1 r1) fun r2 => some r2) (some false)) = some b ∧ (b = true ↔ (Can s.2.2.1 ∧ s.2.2.1.2.length ≤ 4096) ∧ s.2.2.1 = (dotsOf s.1).foldl putD emptyD) := by
    intro hrt
    rw [g4]
    simp only [bnd_some]
    cases b4 with
    | false => exact ⟨false, rfl, ⟨fun h => (by cases h), fun h => i4.2 h.1⟩⟩
    | true =>
      have h4 := i4.1 rfl
      simp only [br_true]
      rw [known_is k s.1 (by omega) hk2 hrt]
      simp only [bnd_some]
      rw [rsame_is k _ _ (by omega) hk2]
      exact ⟨_, rfl, by rw [decide_eq_true_iff]; exact ⟨fun h => ⟨h4, h⟩, fun h => h.2⟩⟩
  have rows : (∀ t ∈ s.1, rightD t.1 = true) → ∃ b, ref22_Right.l9 k k 0 s = some b ∧ (b = true ↔ (∀ j, 0 ≤ j → j < 8 → redoAt s.2.2.2.2 j) ∧ ((Can s.2.2.1 ∧ s.2.2.1.2.length ≤ 4096) ∧ s.2.2.1 = (dotsOf s.1).foldl putD emptyD)) := by
    intro hrt
    refine loop_all 8 (fun n i => ref22_Right.l9 k n (i : Int) s) (redoAt s.2.2.2.2) (fun n i hi => ?_) _ _ (tail hrt) (fun n => ?_) k 0 (by omega) (by omega)
    · have e1 : ilt (i : Int) 8 = decide (i < 8) := ilt_nn i 8
      have e2 : inB (i : Int) 8 = decide (i < 8) := inB_nat i 8
      have hi1 : i < s.2.2.2.2.length := by omega
      have hll := hrl _ (List.getElem_mem hi1)
      have e4 : ilt 1000 (ilen s.2.2.2.2[i]) = decide (1000 < s.2.2.2.2[i].length) := ilt_lenR 1000 s.2.2.2.2[i]
      simp only [ref22_Right.l9_eq, e1, e2, hi, decide_true, br_true, natOf_nat, rd_at' (e := .slc tDot) hi1, e4]
      by_cases hl : 1000 < s.2.2.2.2[i].length
      · rw [decide_eq_true hl]
        exact .inr ⟨fun h => by have := (h hi1).1; omega, rfl⟩
      · rw [decide_eq_false hl]
        simp only [br_false]
        have inner : ∀ q j, j ≤ s.2.2.2.2[i].length → s.2.2.2.2[i].length < q + j → ((∀ p, j ≤ p → p < s.2.2.2.2[i].length → rdAt s.2.2.2.2[i] p) ∧ ref22_Right.l14 k n q (i : Int) (j : Int) s = ref22_Right.l9 k n ((i + 1 : Nat) : Int) s) ∨ (¬ (∀ p, j ≤ p → p < s.2.2.2.2[i].length → rdAt s.2.2.2.2[i] p) ∧ ref22_Right.l14 k n q (i : Int) (j : Int) s = some false) := by
          intro q
          induction q with
          | zero => intro j h1 h2; omega
          | succ q ih =>
            intro j h1 h2
            have e3 : iadd .i64 (j : Int) 1 = ((j + 1 : Nat) : Int) := iadd_nat (by omega)
            have e5 : iadd .i64 (i : Int) 1 = ((i + 1 : Nat) : Int) := iadd_nat (by omega)
            by_cases hj : j < s.2.2.2.2[i].length
            · simp only [ref22_Right.l14_eq, e2, hi, decide_true, br_true, natOf_nat, rd_at' (e := .slc tDot) hi1, ilt_nat, inL_nat, hj, rd_at' (e := tDot) hj, rright_is, bnd_some, e3]
              cases hd : rightD s.2.2.2.2[i][j] with
              | false => exact .inr ⟨fun h => (by have := h j (Nat.le_refl _) hj hj; rw [hd] at this; cases this), rfl⟩
              | true =>
                rcases ih (j + 1) (by omega) (by omega) with ⟨h3, h4⟩ | ⟨h3, h4⟩
                · refine .inl ⟨fun p hp1 hp2 => ?_, h4⟩
                  by_cases e : p = j
                  · subst e; exact fun _ => hd
                  · exact h3 p (by omega) hp2
                · exact .inr ⟨fun h => h3 fun p hp1 hp2 => h p (by omega) hp2, h4⟩
            · refine .inl ⟨fun p hp1 hp2 => by omega, ?_⟩
              simp only [ref22_Right.l14_eq, e2, hi, decide_true, br_true, natOf_nat, rd_at' (e := .slc tDot) hi1, ilt_nat, hj, decide_false, br_false, e5]
        rcases inner k 0 (by omega) (by omega) with ⟨h3, h4⟩ | ⟨h3, h4⟩
        · exact .inl ⟨fun _ => ⟨by omega, rdAt_all.1 h3⟩, h4⟩
        · exact .inr ⟨fun h => h3 (rdAt_all.2 (h hi1).2), h4⟩
    · have e1 : ilt ((8 : Nat) : Int) 8 = false := rfl
      simp only [ref22_Right.l9_eq, e1, br_false]
  have hdot : (∀ j, 0 ≤ j → j < s.1.length → chkAt k s.1 j) → ∀ t ∈ s.1, rightD t.1 = true := by
    intro h t ht
    obtain ⟨j, hj, rfl⟩ := List.mem_iff_getElem.1 ht
    obtain ⟨e, he, hei⟩ := rtxn_is k s.1[j] (hsh _ ht) (by omega) hk2
    rw [h j (by omega) hj hj] at he
    injection he with he
    exact hei he.symm
  have txs : ∃ b, ref22_Right.l4 k k 0 s = some b ∧ (b = true ↔ (∀ j, 0 ≤ j → j < s.1.length → chkAt k s.1 j) ∧ ((∀ j, 0 ≤ j → j < 8 → redoAt s.2.2.2.2 j) ∧ ((Can s.2.2.1 ∧ s.2.2.1.2.length ≤ 4096) ∧ s.2.2.1 = (dotsOf s.1).foldl putD emptyD))) := by
    by_cases hall : ∀ j, 0 ≤ j → j < s.1.length → chkAt k s.1 j
    · refine loop_all s.1.length (fun n i => ref22_Right.l4 k n (i : Int) s) (chkAt k s.1) (fun n i hi => ?_) _ _ (rows (hdot hall)) (fun n => ?_) k 0 (by omega) (by omega)
      · have e3 : iadd .i64 (i : Int) 1 = ((i + 1 : Nat) : Int) := iadd_nat (by omega)
        have hc := hall i (by omega) hi hi
        have ez : ieq (0 : Int) 0 = true := rfl
        simp only [ref22_Right.l4_eq, ilt_nat, inL_nat, natOf_nat, hi, decide_true, br_true, rd_at' (e := tTxn) hi, hc, bnd_some, e3, ez, bt, br_false]
        exact .inl ⟨hall i (by omega) hi, trivial⟩
      · simp only [ref22_Right.l4_eq, ilt_nat, Nat.lt_irrefl, decide_false, br_false]
    · -- it falls at the first that is wrong
      have fall : ∀ n i, i ≤ s.1.length → s.1.length < n + i → (¬ ∀ j, i ≤ j → j < s.1.length → chkAt k s.1 j) → ref22_Right.l4 k n (i : Int) s = some false := by
        intro n
        induction n with
        | zero => intro i h1 h2; omega
        | succ n ih =>
          intro i h1 h2 hne
          have hi : i < s.1.length := Nat.lt_of_not_le fun hle => hne fun j hj1 hj2 => by omega
          have e3 : iadd .i64 (i : Int) 1 = ((i + 1 : Nat) : Int) := iadd_nat (by omega)
          obtain ⟨e, he, _⟩ := rtxn_is k s.1[i] (hsh _ (List.getElem_mem hi)) (by omega) hk2
          rw [ref22_Right.l4_eq, ilt_nat, inL_nat, natOf_nat, rd_at' (e := tTxn) hi, he, e3]
          simp only [hi, decide_true, br_true, bnd_some, ieq_dec, bnot_dec, br_dec]
          by_cases hz : e = 0
          · rw [if_neg (by simpa using hz)]
            refine ih (i + 1) (by omega) (by omega) fun hh => hne fun j hj1 hj2 => ?_
            by_cases ej : j = i
            · subst ej; exact fun _ => by rw [he, hz]
            · exact hh j (by omega) hj2
          · rw [if_pos hz]
      exact ⟨false, fall k 0 (by omega) (by omega) hall, ⟨fun h => (by cases h), fun h => absurd h.1 hall⟩⟩
  obtain ⟨b, hb, hbi⟩ := txs
  refine ⟨b, hb, hbi.trans ⟨fun ⟨h1, h2, h3, h4⟩ => ?_, fun h => ⟨fun j _ hj _ => h.chk _ (List.getElem_mem hj), fun j _ hj hj8 => h.redo _ (List.getElem_mem hj8), h.kn, h.know⟩⟩⟩
  refine ⟨by omega, i1.1 rfl, i2.1 rfl, i3.1 rfl, fun t ht => ?_, fun l hl => ?_, h3, h4⟩
  · obtain ⟨j, hj, rfl⟩ := List.mem_iff_getElem.1 ht
    exact h1 j (by omega) hj hj
  · obtain ⟨j, hj, rfl⟩ := List.mem_iff_getElem.1 hl
    exact h2 j (by omega) (by omega) hj
theorem RightS.can {k : Nat} {s : Sta} (h : RightS k s) (hsh : ∀ t ∈ s.1, ShortT t) (hk : 1000 < k) (hk2 : k < 1000000) : CanS s := by
  have hrt : ∀ t ∈ s.1, rightD t.1 = true := fun t ht => by
    obtain ⟨e, he, hei⟩ := rtxn_is k t (hsh t ht) hk hk2
    rw [h.chk t ht] at he; injection he with he; exact hei he.symm
  exact ⟨⟨hrt, h.ris⟩, h.un, h.kn.1, h.se.1, fun x => by rw [h.know]; exact (known_mem hrt).2.1 x⟩
structure ShortS (s : Sta) : Prop where
  tx : s.1.length ≤ 20
  un : s.2.1.length ≤ 100
  kn : s.2.2.1.2.length ≤ 100
  se : s.2.2.2.1.2.length ≤ 100
  each : ∀ t ∈ s.1, ShortT t
  redo : ∀ l ∈ s.2.2.2.2, l.length ≤ 40
theorem ShortS.len {s : Sta} (h : ShortS s) : LenS 100 s := ⟨Nat.le_trans h.tx (by decide), h.un, h.kn, h.se, fun l hl => Nat.le_trans (h.redo l hl) (by decide)⟩
def shtAt (k : Nat) (l : List Txn) (j : Nat) : Prop := ∀ h : j < l.length, ref12_Short.f k l[j] = some true
def s40At (r : List (List Dot)) (j : Nat) : Prop := ∀ h : j < r.length, r[j].length ≤ 40
theorem shtAt_all {k : Nat} {l : List Txn} (hk : 1000 < k) (hk2 : k < 1000000) (h : ∀ j, 0 ≤ j → j < l.length → shtAt k l j) : ∀ t ∈ l, ShortT t := by
  intro t ht
  obtain ⟨j, hj, rfl⟩ := List.mem_iff_getElem.1 ht
  obtain ⟨b, hb, hbi⟩ := rtxnshort_is k l[j] hk hk2
  rw [h j (by omega) hj hj] at hb
  injection hb with hb; exact hbi hb.symm
theorem sht_step (k : Nat) (t : Txn) (hk : 1000 < k) (hk2 : k < 1000000) : ∃ b, ref12_Short.f k t = some b := by
  obtain ⟨b, hb, _⟩ := rtxnshort_is k t hk hk2
  exact ⟨b, hb⟩
theorem rshortS_is (k : Nat) (s : Sta) (hr8 : s.2.2.2.2.length = 8) (hk : 1000 < k) (hk2 : k < 1000000) : ∃ b, ref22_Short.f k s = some b ∧ (b = true → ShortS s) := by
  rw [ref22_Short.f_eq, show ilt 20 (ilen s.1) = decide (20 < s.1.length) from ilt_lenR 20 _, show ilt 100 (ilen s.2.1) = decide (100 < s.2.1.length) from ilt_lenR 100 _, show ilt 100 (ilen s.2.2.1.2) = decide (100 < s.2.2.1.2.length) from ilt_lenR 100 _, show ilt 100 (ilen s.2.2.2.1.2) = decide (100 < s.2.2.2.1.2.length) from ilt_lenR 100 _]
  simp only [br_dec]
  by_cases h1 : 20 < s.1.length
  · rw [if_pos h1]; exact ⟨false, rfl, fun h => by cases h⟩
  by_cases h2 : 100 < s.2.1.length
  · rw [if_neg h1, if_pos h2]; exact ⟨false, rfl, fun h => by cases h⟩
  by_cases h3 : 100 < s.2.2.1.2.length
  · rw [if_neg h1, if_neg h2, if_pos h3]; exact ⟨false, rfl, fun h => by cases h⟩
  by_cases h4 : 100 < s.2.2.2.1.2.length
  · rw [if_neg h1, if_neg h2, if_neg h3, if_pos h4]; exact ⟨false, rfl, fun h => by cases h⟩
  rw [if_neg h1, if_neg h2, if_neg h3, if_neg h4]
  have rows : ∃ b, ref22_Short.l9 k k 0 s = some b ∧ (b = true ↔ ∀ j, 0 ≤ j → j < 8 → s40At s.2.2.2.2 j) := by
    refine loop_all' 8 (fun n i => ref22_Short.l9 k n (i : Int) s) (s40At s.2.2.2.2) (fun n i hi => ?_) (fun n => ?_) k 0 (by omega) (by omega)
    · have e1 : ilt (i : Int) 8 = decide (i < 8) := ilt_nn i 8
      have e2 : inB (i : Int) 8 = decide (i < 8) := inB_nat i 8
      have hi1 : i < s.2.2.2.2.length := by omega
      have e3 : iadd .i64 (i : Int) 1 = ((i + 1 : Nat) : Int) := iadd_nat (by omega)
      have e4 : ilt 40 (ilen s.2.2.2.2[i]) = decide (40 < s.2.2.2.2[i].length) := ilt_lenR 40 s.2.2.2.2[i]
      simp only [ref22_Short.l9_eq, e1, e2, hi, decide_true, br_true, natOf_nat, rd_at' (e := .slc tDot) hi1, e4, e3, br_dec]
      by_cases hl : 40 < s.2.2.2.2[i].length
      · exact .inr ⟨fun h => by have := h hi1; omega, if_pos hl⟩
      · exact .inl ⟨fun _ => by omega, if_neg hl⟩
    · have e1 : ilt ((8 : Nat) : Int) 8 = false := rfl
      simp only [ref22_Short.l9_eq, e1, br_false]
  obtain ⟨b, hb, hbi⟩ := loop_all s.1.length (fun n i => ref22_Short.l4 k n (i : Int) s) (shtAt k s.1) (fun n i hi => by
    have e3 : iadd .i64 (i : Int) 1 = ((i + 1 : Nat) : Int) := iadd_nat (by omega)
    obtain ⟨c, hc⟩ := sht_step k s.1[i] hk hk2
    simp only [ref22_Short.l4_eq, ilt_nat, inL_nat, natOf_nat, hi, decide_true, br_true, rd_at' (e := tTxn) hi, hc, bnd_some, e3]
    cases c with
    | false => exact .inr ⟨fun h => (by have := h hi; rw [hc] at this; cases this), rfl⟩
    | true => exact .inl ⟨fun _ => hc, rfl⟩) _ _ rows (fun n => by simp only [ref22_Short.l4_eq, ilt_nat, Nat.lt_irrefl, decide_false, br_false]) k 0 (by omega) (by omega)
  refine ⟨b, hb, fun h => ?_⟩
  obtain ⟨q1, q2⟩ := hbi.1 h
  refine ⟨by omega, by omega, by omega, by omega, shtAt_all hk hk2 q1, fun l hl => ?_⟩
  obtain ⟨j, hj, rfl⟩ := List.mem_iff_getElem.1 hl
  exact q2 j (by omega) (by omega) hj
theorem goodS_is (k : Nat) (s : Ty.D tState) (fs : Fits tState s) (hk : 5000 < k) (hk2 : k < 1000000) : ∃ b, ref22_Good.f k s = some b ∧ (b = true → CanS s ∧ ShortS s ∧ RightS k s) := by
  have f1 : s.2.2.1.1.length = 16 := fs.2.2.1.1.1
  have f2 : s.2.2.2.1.1.length = 16 := fs.2.2.2.1.1.1
  have f3 : s.2.2.2.2.length = 8 := fs.2.2.2.2.1
  obtain ⟨b, hb, hbi⟩ := rshortS_is k s f3 (by omega) hk2
  rw [ref22_Good.f_eq, hb]
  simp only [bnd_some]
  cases b with
  | false => exact ⟨false, rfl, fun h => by cases h⟩
  | true =>
    have sh := hbi rfl
    have := sh.un
    obtain ⟨c, hc, hci⟩ := rrightS_is k s f1 f2 f3 sh.each (fun l hl => by have := sh.redo l hl; omega) (by omega) hk hk2
    simp only [br_true, hc, bnd_some]
    exact ⟨c, rfl, fun h => ⟨(hci.1 h).can sh.each (by omega) hk2, sh, hci.1 h⟩⟩
theorem ShortT.lenT {t : Txn} (h : ShortT t) {k : Nat} (hk : 1000 < k) : LenT k t := ⟨by have := h.len; omega, fun o ho => ⟨by have := (h.ops o ho).path.1; omega, by have := (h.ops o ho).seen; omega⟩⟩
structure ShortD (d : Dlt) : Prop where
  tx : d.1.length ≤ 20
  un : d.2.1.length ≤ 100
  se : d.2.2.length ≤ 100
  each : ∀ t ∈ d.1, ShortT t
theorem ShortD.len {d : Dlt} (h : ShortD d) : LenD 100 d := ⟨Nat.le_trans h.tx (by decide), h.un, h.se⟩
structure RightDl (k : Nat) (d : Dlt) : Prop where
  many : d.1.length ≤ 1000
  ris : d.1.Pairwise (fun a b => dotLt a.1 b.1 = true)
  un : CanU d.2.1
  chk : ∀ t ∈ d.1, ref12_Check.f k t = some 0
  se : ∀ x ∈ d.2.2, rightD x = true
theorem RightDl.can {k : Nat} {d : Dlt} (h : RightDl k d) (hsh : ∀ t ∈ d.1, ShortT t) (hk : 1000 < k) (hk2 : k < 1000000) : CanDl d :=
  ⟨⟨fun t ht => by
    obtain ⟨e, he, hei⟩ := rtxn_is k t (hsh t ht) hk hk2
    rw [h.chk t ht] at he; injection he with he; exact hei he.symm, h.ris⟩, h.un, h.se⟩
end Go.Proofs.YthghlnmihipeoaaGreatDoor
end
section
/- States with more of each: they may be, and the order does not matter. -/
set_option linter.unusedVariables false
set_option linter.unusedSimpArgs false
namespace Go.Proofs.YthghlnmihipeoaaGreatDoor
open Pal
theorem putS_mem {s : Sta} {t : Txn} (hs : CanS s) (ht : rightD t.1 = true) : ∀ x ∈ (putS s t).1, x ∈ s.1 ∨ x = t := by
  intro x hx
  obtain ⟨a1, a2, _⟩ := putS_all hs ht
  have h := findT_mem a1.tx hx
  rw [a2] at h
  cases hf : findT s.1 x.1 with
  | some y =>
    rw [hf] at h
    have h : some y = some x := h
    injection h with h; subst h
    exact .inl (findT_some hf).1
  | none =>
    rw [hf] at h
    have h : (if x.1 = t.1 then some t else none) = some x := h
    by_cases e : x.1 = t.1
    · rw [if_pos e] at h; injection h with h; exact .inr h.symm
    · rw [if_neg e] at h; cases h
theorem putS_len {s : Sta} {t : Txn} {n : Nat} (hs : CanS s) (ls : LenS n s) (ht : rightD t.1 = true) : LenS (n + 1) (putS s t) := by
  obtain ⟨a1, a2, a3, a4, a5, a6⟩ := putS_all hs ht
  have l1 := ls.tx; have l2 := ls.kn; have l3 := ls.se; have l4 := ls.un
  exact ⟨by omega, by rw [a3]; omega, by omega, by rw [a4]; omega, fun l hl => by rw [a4] at hl; have := ls.re l hl; omega⟩
theorem raiseS_len {s : Sta} {u : List (Dot × Int)} {n m : Nat} (hs : CanS s) (ls : LenS n s) (hu : CanU u) (hm : u.length ≤ m) : LenS (n + m) (raiseS s u) := by
  have l1 := ls.tx; have l2 := ls.kn; have l3 := ls.se; have l4 := ls.un
  refine ⟨by show s.1.length ≤ _; omega, ?_, by show s.2.2.1.2.length ≤ _; omega, by show s.2.2.2.1.2.length ≤ _; omega, fun l hl => by have := ls.re l hl; omega⟩
  show (joinU s.2.1 u).length ≤ _
  have := joinU_len hs.un hu; omega
theorem sealS_len {s : Sta} {l : List Dot} {n m : Nat} (hs : CanS s) (ls : LenS n s) (hm : l.length ≤ m) : LenS (n + m) (sealS s l) := by
  have l1 := ls.tx; have l2 := ls.kn; have l3 := ls.se; have l4 := ls.un
  refine ⟨by show s.1.length ≤ _; omega, by show s.2.1.length ≤ _; omega, by show s.2.2.1.2.length ≤ _; omega, ?_, fun l hl => by have := ls.re l hl; omega⟩
  show (unionD s.2.2.2.1 (ofD l)).2.length ≤ _
  have := (unionD_can hs.se (ofD_can l).1).2.2
  have := (ofD_can l).2.2
  omega
theorem more_swap {s : Sta} {a b : Txn} {u v : List (Dot × Int)} {l m : List Dot} (hs : CanS s) (ha : rightD a.1 = true) (hb : rightD b.1 = true) (hab : a.1 ≠ b.1) (hu : CanU u) (hv : CanU v) :
    putS (raiseS (sealS (putS (raiseS (sealS s l) u) a) m) v) b = sealS (raiseS (putS (sealS (raiseS (putS s b) v) m) a) u) l := by
  have x1 := raiseS_can (sealS_can (l := l) hs) hu
  obtain ⟨x2, x3, x4, x5, _⟩ := putS_all x1 ha
  have x6 := raiseS_can (sealS_can (l := m) x2) hv
  obtain ⟨x7, x8, x9, x10, _⟩ := putS_all x6 hb
  obtain ⟨y1, y2, y3, y4, _⟩ := putS_all hs hb
  have y5 := sealS_can (l := m) (raiseS_can y1 hv)
  obtain ⟨y6, y7, y8, y9, _⟩ := putS_all y5 ha
  have y10 := sealS_can (l := l) (raiseS_can y6 hu)
  refine sta_eq x7 y10 (fun d => ?_) ?_ ?_
  · rw [x8]
    show (findT (putS (raiseS (sealS s l) u) a).1 d).or _ = findT (putS (sealS (raiseS (putS s b) v) m) a).1 d
    rw [x3, y7]
    show ((findT s.1 d).or _).or _ = (findT (putS s b).1 d).or _
    rw [y2]
    by_cases e1 : d = a.1
    · by_cases e2 : d = b.1
      · exact absurd (e1.symm.trans e2) hab
      · rw [if_pos e1, if_neg e2]; cases findT s.1 d <;> rfl
    · rw [if_neg e1]
      cases findT s.1 d <;> simp
  · rw [x9]
    show joinU (putS (raiseS (sealS s l) u) a).2.1 v = joinU (putS (sealS (raiseS (putS s b) v) m) a).2.1 u
    rw [x4, y8]
    show joinU (joinU s.2.1 u) v = joinU (joinU (putS s b).2.1 v) u
    rw [y3, joinU_swap hs.un hu hv]
  · rw [x10]
    show (unionD (putS (raiseS (sealS s l) u) a).2.2.2.1 (ofD m), (putS (raiseS (sealS s l) u) a).2.2.2.2) = (unionD (putS (sealS (raiseS (putS s b) v) m) a).2.2.2.1 (ofD l), (putS (sealS (raiseS (putS s b) v) m) a).2.2.2.2)
    rw [x5, y9]
    show (unionD (unionD s.2.2.2.1 (ofD l)) (ofD m), s.2.2.2.2) = (unionD (unionD (putS s b).2.2.2.1 (ofD m)) (ofD l), (putS s b).2.2.2.2)
    rw [y4, unionD_swap hs.se (ofD_can l).1 (ofD_can m).1]
end Go.Proofs.YthghlnmihipeoaaGreatDoor
end
section
/- States with more of each: the document's functions. -/
set_option linter.unusedVariables false
set_option linter.unusedSimpArgs false
namespace Go.Proofs.YthghlnmihipeoaaGreatDoor
open Pal
end Go.Proofs.YthghlnmihipeoaaGreatDoor
end
section
/- Chapter 22's example: it is as it is told. -/
namespace Go.Proofs.YthghlnmihipeoaaGreatDoor
open Pal
set_option maxRecDepth 100000 in
theorem law22_awake.is (k : Nat) : law22_awake.f (k + 60) = some true := by kernel_rfl
theorem awake22 {k : Nat} (h : 60 ≤ k) : law22_awake.f k = some true := by
  obtain ⟨q, rfl⟩ : ∃ q, k = q + 60 := ⟨k - 60, by omega⟩
  exact law22_awake.is q
end Go.Proofs.YthghlnmihipeoaaGreatDoor
end
section
/- The plain laws: the runs of StateGrows and StateOrder answer true for every input. -/
set_option linter.unusedVariables false
set_option linter.unusedSimpArgs false
namespace Go.Proofs.YthghlnmihipeoaaGreatDoor
open Pal
theorem rgoodU_is (k : Nat) (u : List Undo) (hk : 5000 < k) (hk2 : k < 1000000) : ∃ b, ref08_Good.f k u = some b ∧ (b = true → u.length ≤ 100 ∧ CanU u) := by
  rw [ref08_Good.f_eq, show ile (ilen u) 100 = decide (u.length ≤ 100) from ile_len 100 u]
  by_cases h : u.length ≤ 100
  · obtain ⟨b, g, i⟩ := rrightU_is k u (by omega) hk2
    rw [decide_eq_true h, br_true, g]
    exact ⟨b, rfl, fun hb => ⟨h, i.1 hb⟩⟩
  · rw [decide_eq_false h]; exact ⟨false, rfl, fun h => by cases h⟩
theorem same_self (k : Nat) (s : Sta) {n : Nat} (ls : LenS n s) (he : ∀ t ∈ s.1, ShortT t) (h8 : s.2.2.2.2.length = 8) (hn : n < k) (hk : 5000 < k) (hk2 : k < 1000000) : ref22_Same.f k s s = some true := by
  obtain ⟨b, h1, h2⟩ := rsameS_is k s s ls (fun t ht => (he t ht).lenT (by omega)) h8 h8 hn (by omega) hk2
  rw [h1, h2.2 rfl]
theorem stateOrder_at (k : Nat) (hk : 5000 < k) (hk2 : k < 1000000) (s : Ty.D tState) (fs : Fits tState s) (a b : Ty.D tTxn) (u v : Ty.D (.slc tUndo)) (l m : Ty.D (.slc tDot)) : law22_StateOrder.f k s a b u v l m = some true := by
  have aw : law22_awake.f k = some true := awake22 (by omega)
  have bt : bnot true = false := rfl
  have bf : bnot false = true := rfl
  have f3 : s.2.2.2.2.length = 8 := fs.2.2.2.2.1
  obtain ⟨c1, g1, i1⟩ := goodS_is k s fs hk hk2
  rw [law22_StateOrder.f_eq, g1, aw]
  simp only [bnd_some]
  cases c1 with
  | false => rw [bf]; rfl
  | true =>
  obtain ⟨hs, sh, hr⟩ := i1 rfl
  rw [bt, br_false]
  obtain ⟨c2, g2, i2⟩ := rtxnshort_is k a (by omega) hk2
  rw [g2, bnd_some]
  cases c2 with
  | false => rw [bf]; rfl
  | true =>
  have ha := i2 rfl
  rw [bt, br_false]
  obtain ⟨c3, g3, i3⟩ := rtxnshort_is k b (by omega) hk2
  rw [g3, bnd_some]
  cases c3 with
  | false => rw [bf]; rfl
  | true =>
  have hb := i3 rfl
  rw [bt, br_false]
  obtain ⟨e, g4, i4⟩ := rtxn_is k a ha (by omega) hk2
  rw [g4, bnd_some]
  by_cases he : e = 0
  case neg => rw [show ieq e 0 = false from by rw [ieq_dec]; exact decide_eq_false he, bf]; rfl
  subst he
  have da := i4 rfl
  rw [show ieq 0 0 = true from rfl, bt, br_false]
  obtain ⟨e, g5, i5⟩ := rtxn_is k b hb (by omega) hk2
  rw [g5, bnd_some]
  by_cases he : e = 0
  case neg => rw [show ieq e 0 = false from by rw [ieq_dec]; exact decide_eq_false he, bf]; rfl
  subst he
  have db := i5 rfl
  rw [show ieq 0 0 = true from rfl, bt, br_false, deqD]
  by_cases hab : a.1 = b.1
  · rw [decide_eq_true hab]; rfl
  rw [decide_eq_false hab, br_false]
  obtain ⟨c4, g6, i6⟩ := rgoodU_is k u hk hk2
  rw [g6, bnd_some]
  cases c4 with
  | false => rw [bf]; rfl
  | true =>
  obtain ⟨ul, hu⟩ := i6 rfl
  rw [bt, br_false]
  obtain ⟨c5, g7, i7⟩ := rgoodU_is k v hk hk2
  rw [g7, bnd_some]
  cases c5 with
  | false => rw [bf]; rfl
  | true =>
  obtain ⟨vl, hv⟩ := i7 rfl
  rw [bt, br_false, show ilt 40 (ilen l) = decide (40 < List.length l) from ilt_lenR 40 l]
  by_cases hl : 40 < List.length l
  · rw [decide_eq_true hl]; rfl
  have hl : List.length l ≤ 40 := by omega
  rw [decide_eq_false (by omega), br_false, show ilt 40 (ilen m) = decide (40 < List.length m) from ilt_lenR 40 m]
  by_cases hm : 40 < List.length m
  · rw [decide_eq_true hm]; rfl
  have hm : List.length m ≤ 40 := by omega
  rw [decide_eq_false (by omega), br_false]
  have ls := sh.len
  have x1 := sealS_can (l := l) hs
  have lx1 := sealS_len hs ls hl
  have x2 := raiseS_can x1 hu
  have lx2 := raiseS_len x1 lx1 hu ul
  have x3 := (putS_all x2 da).1
  have lx3 := putS_len x2 lx2 da
  have x4 := sealS_can (l := m) x3
  have lx4 := sealS_len x3 lx3 hm
  have x5 := raiseS_can x4 hv
  have lx5 := raiseS_len x4 lx4 hv vl
  have y1 := (putS_all hs db).1
  have ly1 := putS_len hs ls db
  have y2 := raiseS_can y1 hv
  have ly2 := raiseS_len y1 ly1 hv vl
  have y3 := sealS_can (l := m) y2
  have ly3 := sealS_len y2 ly2 hm
  have y4 := (putS_all y3 da).1
  have ly4 := putS_len y3 ly3 da
  have y5 := raiseS_can y4 hu
  have ly5 := raiseS_len y4 ly4 hu ul
  have ly6 := sealS_len y5 ly5 hl
  rw [sseal_is k s l (by omega) hs ls hl (by omega) hk2, bnd_some, sraise_is k _ u (by omega) lx1 ul (by omega) hk2, bnd_some, sput_is k _ a (by omega) lx2 (by omega) hk2 x2 da, bnd_some,
    sseal_is k _ m (by omega) x3 lx3 hm (by omega) hk2, bnd_some, sraise_is k _ v (by omega) lx4 vl (by omega) hk2, bnd_some, sput_is k _ b (by omega) lx5 (by omega) hk2 x5 db, bnd_some,
    sput_is k s b (by omega) ls (by omega) hk2 hs db, bnd_some, sraise_is k _ v (by omega) ly1 vl (by omega) hk2, bnd_some, sseal_is k _ m (by omega) y2 ly2 hm (by omega) hk2, bnd_some,
    sput_is k _ a (by omega) ly3 (by omega) hk2 y3 da, bnd_some, sraise_is k _ u (by omega) ly4 ul (by omega) hk2, bnd_some, sseal_is k _ l (by omega) y5 ly5 hl (by omega) hk2, bnd_some,
    more_swap hs da db hab hu hv]
  have ea : ∀ x ∈ (sealS (raiseS (putS (sealS (raiseS (putS s b) v) m) a) u) l).1, ShortT x := fun x hx => by
    rcases putS_mem y3 da x hx with h | rfl
    · rcases putS_mem hs db x h with h | rfl
      · exact sh.each x h
      · exact hb
    · exact ha
  have r8 : (sealS (raiseS (putS (sealS (raiseS (putS s b) v) m) a) u) l).2.2.2.2.length = 8 := by
    show (putS (sealS (raiseS (putS s b) v) m) a).2.2.2.2.length = 8
    rw [(putS_all y3 da).2.2.2.1]
    show (putS s b).2.2.2.2.length = 8
    rw [(putS_all hs db).2.2.2.1]; exact f3
  rw [same_self k _ ly6 ea r8 (by omega) hk hk2, bnd_some, br_true]
theorem stateOrder_true (s : Ty.D tState) (fs : Fits tState s) (a : Ty.D tTxn) (_ : Fits tTxn a) (b : Ty.D tTxn) (_ : Fits tTxn b) (u : Ty.D (.slc tUndo)) (_ : Fits (.slc tUndo) u) (v : Ty.D (.slc tUndo)) (_ : Fits (.slc tUndo) v) (l : Ty.D (.slc tDot)) (_ : Fits (.slc tDot) l) (m : Ty.D (.slc tDot)) (_ : Fits (.slc tDot) m) : ∃ k, law22_StateOrder.f k s a b u v l m = some true :=
  ⟨6000, stateOrder_at 6000 (by decide) (by decide) s fs a b u v l m⟩
end Go.Proofs.YthghlnmihipeoaaGreatDoor
end
section
/- The statement of the law StateOrder, as a tied card: for every input the law returns true, and its arguments read as they did. The listed tables hold what the program's text lays. No other conditions. -/
namespace Go.Proofs.YthghlnmihipeoaaGreatDoor.stateOrderDone
open Go.ChangeShapes Go.WideShapes Go.ChangeAt Go.RowKit
open Pal
set_option linter.unusedVariables false

theorem own : ownKnob Tryz.prog.godebug = none := by kernel_rfl
theorem laidOut : laidOutB Tryz.prog = true := by kernel_rfl
set_option maxRecDepth 100000 in
theorem door_met (os : Os) (args : Array Value) : laidMetH Tryz.prog Rows.stateOrderRow.laid ((World.laidAll Tryz.prog os Rows.stateOrderRow.laid).forCall (fun _ _ => 0) ⟨#[], args, []⟩).memory := by
  rw [MakeChecks.laidMetH_plain _ _ _ (by kernel_rfl)]; exact laidMet_laidAll _ (by kernel_rfl) (by kernel_rfl)
theorem ty0 : tyB Tryz.prog 40 31 tState = true := by kernel_rfl
theorem ty1 : tyB Tryz.prog 40 36 tTxn = true := by kernel_rfl
theorem ty2 : tyB Tryz.prog 40 36 tTxn = true := by kernel_rfl
theorem ty3 : tyB Tryz.prog 40 23 (.slc tUndo) = true := by kernel_rfl
theorem ty4 : tyB Tryz.prog 40 23 (.slc tUndo) = true := by kernel_rfl
theorem ty5 : tyB Tryz.prog 40 26 (.slc tDot) = true := by kernel_rfl
theorem ty6 : tyB Tryz.prog 40 26 (.slc tDot) = true := by kernel_rfl

theorem walk (W : World) (hTab : MonoC.tab (img W)) (v0 : Value) (x0 : Ty.D tState) (h0 : TRep (gh0 W) W (.dat tState x0) v0 []) (f0 : Fits tState x0) (v1 : Value) (x1 : Ty.D tTxn) (h1 : TRep (gh0 W) W (.dat tTxn x1) v1 []) (f1 : Fits tTxn x1) (v2 : Value) (x2 : Ty.D tTxn) (h2 : TRep (gh0 W) W (.dat tTxn x2) v2 []) (f2 : Fits tTxn x2) (v3 : Value) (x3 : Ty.D (.slc tUndo)) (h3 : TRep (gh0 W) W (.dat (.slc tUndo) x3) v3 []) (f3 : Fits (.slc tUndo) x3) (v4 : Value) (x4 : Ty.D (.slc tUndo)) (h4 : TRep (gh0 W) W (.dat (.slc tUndo) x4) v4 []) (f4 : Fits (.slc tUndo) x4) (v5 : Value) (x5 : Ty.D (.slc tDot)) (h5 : TRep (gh0 W) W (.dat (.slc tDot) x5) v5 []) (f5 : Fits (.slc tDot) x5) (v6 : Value) (x6 : Ty.D (.slc tDot)) (h6 : TRep (gh0 W) W (.dat (.slc tDot) x6) v6 []) (f6 : Fits (.slc tDot) x6) :
    Calls Tryz.prog 4 #[v0, v1, v2, v3, v4, v5, v6] W fun e w' => e = .returned (.bool true) ∧ Below W.heap.size W w' := by
  obtain ⟨k, hk⟩ := stateOrder_true x0 f0 x1 f1 x2 f2 x3 f3 x4 f4 x5 f5 x6 f6
  exact law_calls' (args := [.dat tState x0, .dat tTxn x1, .dat tTxn x2, .dat (.slc tUndo) x3, .dat (.slc tUndo) x4, .dat (.slc tDot) x5, .dat (.slc tDot) x6]) (argv := [v0, v1, v2, v3, v4, v5, v6]) (code := law22_StateOrder.body) (σ := law22_StateOrder.sg) (F := fun x => law22_StateOrder.f k x.1 x.2.1 x.2.2.1 x.2.2.2.1 x.2.2.2.2.1 x.2.2.2.2.2.1 x.2.2.2.2.2.2) (x := (x0, x1, x2, x3, x4, x5, x6)) (r := true) (law22_StateOrder.ok k) Tryz.func4 (by kernel_rfl) (by kernel_rfl) (by kernel_rfl) (by kernel_rfl) hk rfl rfl
    ⟨v0, _, [], [], rfl, rfl, h0, ⟨v1, _, [], [], rfl, rfl, h1, ⟨v2, _, [], [], rfl, rfl, h2, ⟨v3, _, [], [], rfl, rfl, h3, ⟨v4, _, [], [], rfl, rfl, h4, ⟨v5, _, [], [], rfl, rfl, h5, ⟨v6, _, [], [], rfl, rfl, h6, ⟨rfl, rfl⟩⟩⟩⟩⟩⟩⟩⟩ hTab

set_option maxRecDepth 100000 in
theorem lifted (os : Os) (started : os.Started) (H : Type) (enc : TypeId × Value → H) :
    ReturnsInHanded {} Tryz.checked os 4 .any (fun w args => (Rows.stateOrderSpec.pre enc Tryz.prog Tryz.f4 [] false w args ∧ laidMetH Tryz.prog Rows.stateOrderRow.laid w) ∧ sizedMet enc Tryz.prog Tryz.f4 (OpenSpec.ofChange Rows.stateOrderSpec) false w args)
      (Rows.stateOrderSpec.post enc Tryz.prog Tryz.f4 false true false false) := by
  refine returnsInHanded_of_change_and (C := Tryz.checked) (X := fun w _ => laidMetH Tryz.prog Rows.stateOrderRow.laid w) (fun _ _ _ hh h => h.of_heap hh) own started (by kernel_rfl) Tryz.func4
    (ChangeSpec.witness_shaped (enc := enc) (C := Tryz.checked) (os := os) (X := fun w _ => laidMetH Tryz.prog Rows.stateOrderRow.laid w) false (World.laidAll Tryz.prog os Rows.stateOrderRow.laid) #[.agg #[.slice none 0 0, .slice none 0 0, .int .i64 0, .int .i64 0, .int .i64 0, .int .i64 0, .int .i64 0, .int .i64 0, .int .i64 0, .int .i64 0, .int .i64 0, .int .i64 0, .int .i64 0, .int .i64 0, .int .i64 0, .int .i64 0, .int .i64 0, .int .i64 0, .slice none 0 0, .int .i64 0, .int .i64 0, .int .i64 0, .int .i64 0, .int .i64 0, .int .i64 0, .int .i64 0, .int .i64 0, .int .i64 0, .int .i64 0, .int .i64 0, .int .i64 0, .int .i64 0, .int .i64 0, .int .i64 0, .int .i64 0, .slice none 0 0, .slice none 0 0, .slice none 0 0, .slice none 0 0, .slice none 0 0, .slice none 0 0, .slice none 0 0, .slice none 0 0, .slice none 0 0], .agg #[.int .i64 0, .int .i64 0, .int .i64 0, .int .i64 0, .bool false, .slice none 0 0], .agg #[.int .i64 0, .int .i64 0, .int .i64 0, .int .i64 0, .bool false, .slice none 0 0], .slice none 0 0, .slice none 0 0, .slice none 0 0, .slice none 0 0] 12 (World.laidAll_os _ _ _) (World.shaped_of_ZipB (by kernel_rfl) (by kernel_rfl)) (by kernel_rfl) (by kernel_rfl) (by kernel_rfl) (door_met os _)) ?_
  intro W base args ds gs before hval0 hW _ _ hL _
  have hval : ∀ (j : Nat) t v, Tryz.f4.params[j]? = some t → args[j]? = some v → Value.okWide Tryz.prog W .any base t v := hval0
  have hW' := hW
  obtain ⟨p, q, hA0, hV, rfl, hfz, hnd⟩ := hW
  have hA : DataW.TrodAll enc Tryz.prog W 0 (fun _ => true) true Tryz.f4.params.toList args.toList ds p := hA0
  rw [Tryz.params4] at hA hval
  obtain ⟨v0, vs0, d0, ds0, p0, q0, hargs, rfl, rfl, h0, r0⟩ := trodAll_cons hA
  obtain ⟨v1, vs1, d1, ds1, p1, q1, rfl, rfl, rfl, h1, r1⟩ := trodAll_cons r0
  obtain ⟨v2, vs2, d2, ds2, p2, q2, rfl, rfl, rfl, h2, r2⟩ := trodAll_cons r1
  obtain ⟨v3, vs3, d3, ds3, p3, q3, rfl, rfl, rfl, h3, r3⟩ := trodAll_cons r2
  obtain ⟨v4, vs4, d4, ds4, p4, q4, rfl, rfl, rfl, h4, r4⟩ := trodAll_cons r3
  obtain ⟨v5, vs5, d5, ds5, p5, q5, rfl, rfl, rfl, h5, r5⟩ := trodAll_cons r4
  obtain ⟨v6, vs6, d6, ds6, p6, q6, rfl, rfl, rfl, h6, r6⟩ := trodAll_cons r5
  obtain ⟨rfl, rfl, rfl⟩ := trodAll_nil r6
  obtain rfl : args = #[v0, v1, v2, v3, v4, v5, v6] := by cases args; simp_all
  obtain ⟨rfl, rfl⟩ := trodVars_none hV
  have k0 := h0
  have lt0 : ∀ x ∈ p0, x.block < W.heap.size := by obtain ⟨m, hm⟩ := k0; exact DataW.trod_lt m _ _ _ hm
  obtain ⟨x0, g0, f0⟩ := arg_open ty0 (hval 0 31 v0 rfl rfl) h0
  have k1 := h1
  have lt1 : ∀ x ∈ p1, x.block < W.heap.size := by obtain ⟨m, hm⟩ := k1; exact DataW.trod_lt m _ _ _ hm
  obtain ⟨x1, g1, f1⟩ := arg_open ty1 (hval 1 36 v1 rfl rfl) h1
  have k2 := h2
  have lt2 : ∀ x ∈ p2, x.block < W.heap.size := by obtain ⟨m, hm⟩ := k2; exact DataW.trod_lt m _ _ _ hm
  obtain ⟨x2, g2, f2⟩ := arg_open ty2 (hval 2 36 v2 rfl rfl) h2
  have k3 := h3
  have lt3 : ∀ x ∈ p3, x.block < W.heap.size := by obtain ⟨m, hm⟩ := k3; exact DataW.trod_lt m _ _ _ hm
  obtain ⟨x3, g3, f3⟩ := arg_open ty3 (hval 3 23 v3 rfl rfl) h3
  have k4 := h4
  have lt4 : ∀ x ∈ p4, x.block < W.heap.size := by obtain ⟨m, hm⟩ := k4; exact DataW.trod_lt m _ _ _ hm
  obtain ⟨x4, g4, f4⟩ := arg_open ty4 (hval 4 23 v4 rfl rfl) h4
  have k5 := h5
  have lt5 : ∀ x ∈ p5, x.block < W.heap.size := by obtain ⟨m, hm⟩ := k5; exact DataW.trod_lt m _ _ _ hm
  obtain ⟨x5, g5, f5⟩ := arg_open ty5 (hval 5 26 v5 rfl rfl) h5
  have k6 := h6
  have lt6 : ∀ x ∈ p6, x.block < W.heap.size := by obtain ⟨m, hm⟩ := k6; exact DataW.trod_lt m _ _ _ hm
  obtain ⟨x6, g6, f6⟩ := arg_open ty6 (hval 6 26 v6 rfl rfl) h6
  clear hA0 hval0
  refine (walk W trivial v0 x0 g0 f0 v1 x1 g1 f1 v2 x2 g2 f2 v3 x3 g3 f3 v4 x4 g4 f4 v5 x5 g5 f5 v6 x6 g6 f6).mono fun e W' ⟨he, bel⟩ => ?_
  subst he
  exact ⟨_, rfl, _, _, _, [], _, [], hW', trodAll_mk1 (shut_bool Tryz.underlying4 _), (trodAll_cons_mk (Below.trod laidOut (by kernel_rfl) (of_decide_eq_true (by kernel_rfl)) k0 bel lt0) (trodAll_cons_mk (Below.trod laidOut (by kernel_rfl) (of_decide_eq_true (by kernel_rfl)) k1 bel lt1) (trodAll_cons_mk (Below.trod laidOut (by kernel_rfl) (of_decide_eq_true (by kernel_rfl)) k2 bel lt2) (trodAll_cons_mk (Below.trod laidOut (by kernel_rfl) (of_decide_eq_true (by kernel_rfl)) k3 bel lt3) (trodAll_cons_mk (Below.trod laidOut (by kernel_rfl) (of_decide_eq_true (by kernel_rfl)) k4 bel lt4) (trodAll_cons_mk (Below.trod laidOut (by kernel_rfl) (of_decide_eq_true (by kernel_rfl)) k5 bel lt5) (trodAll_cons_mk (Below.trod laidOut (by kernel_rfl) (of_decide_eq_true (by kernel_rfl)) k6 bel lt6) trodAll_mk0))))))), rfl, bel.frame _, fun h => by cases h⟩

theorem over : Rows.stateOrderRow.holds Tryz.pinned (OpenSpec.ofChange Rows.stateOrderSpec) :=
  OpenClaim.holds_of_wide 4 Tryz.f4 rfl rfl rfl rfl rfl rfl rfl ⟨rfl, rfl, rfl, rfl, rfl⟩ rfl rfl rfl rfl rfl (by kernel_rfl) Tryz.func4 (by kernel_rfl)
    (of_decide_eq_true (by kernel_rfl)) (by unfold Func.isWrapper; first | (rw [if_pos (by decide +kernel)]; kernel_rfl) | (rw [if_neg (by decide +kernel)]; exact ⟨rfl, rfl⟩))
    (fun os started H enc _ => lifted os started H enc)

theorem proved : Rows.StateOrderCardSaid :=
  Claim7.holds_tied_plain_at .later [] [.data, .pinned] true (true, "acb74b4034bb75f69f5eab50ea9ca0df38fc35b03b70733c9be859776ff4e8ac") false
    over (fun _ h => by cases h) (by kernel_rfl) (fun _ h => by cases h) stateOrder_row_tie rfl ⟨rfl, rfl⟩ (by kernel_rfl) rfl
    (fun f fn hf hfn => by
      obtain rfl : f = 4 := Option.some.inj ((show Tryz.prog.funcNamed "palinode/palinodelaw22.StateOrder" = some 4 by kernel_rfl).symm.trans hf) |>.symm
      obtain rfl : fn = Tryz.f4 := (Option.some.inj (Tryz.func4.symm.trans hfn)).symm
      exact ⟨by kernel_rfl, fun j t ht => by
        rw [Tryz.params4] at ht
        have hm : t ∈ [31, 36, 36, 23, 23, 26, 26] := by simpa using Array.mem_of_getElem? ht
        have hall : ([31, 36, 36, 23, 23, 26, 26].all fun u => !Tryz.prog.wantsStandIn u) = true := by kernel_rfl
        exact (show Tryz.prog.wantsStandIn t = false by simpa using List.all_eq_true.1 hall t hm)⟩)
    (by kernel_rfl)
#print axioms proved
end Go.Proofs.YthghlnmihipeoaaGreatDoor.stateOrderDone
end
