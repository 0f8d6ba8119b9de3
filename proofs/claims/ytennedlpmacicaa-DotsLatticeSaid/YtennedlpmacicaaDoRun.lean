/- What the functions of the layer of dots compute. -/
import Derived.Test.YtennedlpmacicaaDoSet
namespace Go.Proofs.Ytennedlpmacicaa
open Pal
theorem iadd_s {a b : Int} (h1 : -1000000000000 ≤ a) (h2 : a ≤ 1000000000000) (h3 : -1000000000000 ≤ b) (h4 : b ≤ 1000000000000) : iadd .i64 a b = a + b := by
  have e1 : ((2 : Int) ^ 63) = 9223372036854775808 := by decide
  show IntKind.wrap .i64 (a + b) = _
  rw [wrap_i64 (by rw [e1]; omega) (by rw [e1]; omega)]
theorem isub_s {a b : Int} (h1 : -1000000000000 ≤ a) (h2 : a ≤ 1000000000000) (h3 : -1000000000000 ≤ b) (h4 : b ≤ 1000000000000) : isub .i64 a b = a - b := by
  have e1 : ((2 : Int) ^ 63) = 9223372036854775808 := by decide
  show IntKind.wrap .i64 (a - b) = _
  rw [wrap_i64 (by rw [e1]; omega) (by rw [e1]; omega)]
theorem inB16 {r : Int} (h0 : 0 ≤ r) (h1 : r < 16) : inB r 16 = true := by simp [inB, h0]; omega
theorem room1 {α : Type} {xs : List α} {x : α} (h : xs.length < 4000000) : room xs (x :: []) = true := by simp [room]; omega
theorem ile_dec (a b : Int) : ile a b = decide (a ≤ b) := rfl
theorem ilt_dec (a b : Int) : ilt a b = decide (a < b) := rfl
theorem deqD (a b : Dot) : deq tDot a b = decide (a = b) := deq_dec (τ := tDot) rfl a b
theorem last_rd {M : List Dot} {m : Nat} (hl : M.length = m + 1) (hb : m < 4000000) : rd tDot M (natOf (isub .i64 (ilen M) 1)) = M[m] := by
  rw [isub_s (by unfold ilen; omega) (by unfold ilen; omega) (by omega) (by omega), show ilen M - 1 = (m : Int) by unfold ilen; omega, natOf_nat]
  exact rd_at' (e := tDot) (by omega)
theorem last_in {M : List Dot} {m : Nat} (hl : M.length = m + 1) (hb : m < 4000000) : inL (isub .i64 (ilen M) 1) M = true := by
  rw [isub_s (by unfold ilen; omega) (by unfold ilen; omega) (by omega) (by omega), show ilen M - 1 = (m : Int) by unfold ilen; omega, inL_nat]
  simp; omega
theorem getLast_is {M : List Dot} {m : Nat} (hl : M.length = m + 1) : M.getLast? = some M[m] := by
  rw [List.getLast?_eq_getElem?]; exact List.getElem?_eq_some_iff.2 ⟨by omega, by simp [hl]⟩
theorem take_next {l : List Dot} {i : Nat} (hi : i < l.length) : l.take (i + 1) = l.take i ++ [l[i]] := by rw [List.take_add_one, List.getElem?_eq_getElem hi]; rfl
theorem made_l (k : Nat) (l : List Dot) (hl : l.length < 1000000) (hr : ∀ d ∈ l, rightD d = true) (hs : l.Pairwise (fun a b => dotLt b a = false)) (v : Vec) (hv : VOk v) (za : Vec) (zb : List Dot) : ∀ (n i : Nat), i ≤ l.length → l.length < n + i →
    dots_made.l3 k n l (ilen l) (i : Int) za zb (mk v (l.take i)).1 (mk v (l.take i)).2 = some (mk v l)
  | 0, i, h, h' => by omega
  | n + 1, i, h, h' => by
    rw [dots_made.l3_eq, ilt_nat, inL_nat, natOf_nat]
    by_cases hi : i < l.length
    · have hstep : mk v (l.take (i + 1)) = put1 (mk v (l.take i)) l[i] := by rw [take_next hi]; unfold mk; rw [List.foldl_append]; rfl
      obtain ⟨hc, hm, hml, _⟩ := mk_can hv (l.take i) (fun d hd => hr d (List.mem_of_mem_take hd)) (hs.sublist (List.take_sublist i l))
      have ih := made_l k l hl hr hs v hv za zb n (i + 1) (by omega) (by omega)
      rw [hstep] at ih
      have hmk : mk v (l.take i) = mk v (l.take i) := rfl
      generalize mk v (l.take i) = s at hc hm hml ih hstep ⊢
      obtain ⟨V, M⟩ := s
      obtain ⟨r0, r1, r2, r3⟩ := (rightD_iff l[i]).1 (hr _ (List.getElem_mem hi))
      rw [rd_at' (e := tDot) hi, iadd_nat (by omega)]
      obtain ⟨d, hd⟩ : ∃ d : Dot, d = l[i] := ⟨_, rfl⟩
      rw [← hd] at r0 r1 r2 r3 ih ⊢
      have hvv : rd (.int .i64) V (natOf d.1) = vat V d.1 := rfl
      have v0 := hc.vok.lo d.1 r0 r1
      have v1 := hc.vok.hi d.1 r0 r1
      have v0' : 0 ≤ vat V d.1 := v0
      have v1' : vat V d.1 ≤ 1048576 := v1
      have hML : M.length ≤ i := by have : M.length ≤ (l.take i).length := hml; rw [List.length_take] at this; omega
      simp only [hi, decide_true, br_true, inB16 r0 r1, hvv, ile_dec]
      rw [iadd_s (by omega) (by omega) (by omega) (by omega), ieq_dec, ieq_dec]
      unfold put1 at ih
      by_cases h1 : d.2 ≤ vat V d.1
      · simp only [h1, decide_true, br_true, if_true] at ih ⊢; exact ih
      · by_cases h2 : d.2 = vat V d.1 + 1
        · rw [if_neg h1, if_pos h2] at ih
          rw [decide_eq_false h1, decide_eq_true h2]; exact ih
        · simp only [h1, h2, decide_false, br_false, if_false] at ih ⊢
          rw [room1 (by omega)]
          cases hM : M.length with
          | zero =>
            have hM0 : M = [] := List.eq_nil_of_length_eq_zero hM
            subst hM0
            simp only [List.getLast?_nil, reduceCtorEq, if_false] at ih
            have : decide (ilen ([] : List Dot) = 0) = true := rfl
            rw [this]; simp only [br_true]; exact ih
          | succ m =>
            have h4 : ¬ (ilen M = 0) := by unfold ilen; omega
            rw [last_in hM (by omega), last_rd hM (by omega), deqD, bnot_dec]
            simp only [h4, decide_false, br_true, br_false]
            rw [getLast_is hM] at ih
            by_cases h5 : M[m] = d
            · simp only [h5, if_true, decide_true, decide_false, not_true, br_false] at ih ⊢; exact ih
            · have h6 : ¬ (some M[m] = some d) := fun e => h5 (Option.some.inj e)
              simp only [h5, h6, if_false, not_false_eq_true, decide_true, br_true] at ih ⊢; exact ih
    · have : i = l.length := by omega
      subst this
      simp only [List.take_length, Nat.lt_irrefl, decide_false, br_false]
theorem made_is (k : Nat) (l : List Dot) (hl : l.length < k) (hk : k < 1000000) (hr : ∀ d ∈ l, rightD d = true) (hs : l.Pairwise (fun a b => dotLt b a = false)) (v : Vec) (hv : VOk v) : dots_made.f k v l = some (mk v l) := by
  rw [dots_made.f_eq]
  exact made_l k l (by omega) hr hs v hv (zarr 16 0) [] k 0 (by omega) (by omega)
theorem vok0 : VOk (zarr 16 0) := ⟨rfl, fun r h0 h1 => by
    obtain ⟨a, rfl⟩ := Int.eq_ofNat_of_zero_le h0
    have : a < 16 := by omega
    have e : vat (zarr 16 0) (a : Int) = 0 := by rw [vat_get (by show a < 16; omega)]; exact List.getElem_replicate ..
    rw [e]; exact Int.le_refl _, fun r h0 h1 => by
    obtain ⟨a, rfl⟩ := Int.eq_ofNat_of_zero_le h0
    have e : vat (zarr 16 0) (a : Int) = 0 := by rw [vat_get (by show a < 16; omega)]; exact List.getElem_replicate ..
    rw [e]; decide⟩
theorem vat0 (r : Int) (h0 : 0 ≤ r) (h1 : r < 16) : vat (zarr 16 0) r = 0 := by
  obtain ⟨a, rfl⟩ := Int.eq_ofNat_of_zero_le h0
  rw [vat_get (by show a < 16; omega)]; exact List.getElem_replicate ..
/-- The set of some dots. -/
def ofD (l : List Dot) : DSet := mk (zarr 16 0) (isort dotLt (kept rightD l))
theorem kept_mem {l : List Dot} {d : Dot} : d ∈ isort dotLt (kept rightD l) ↔ d ∈ l ∧ rightD d = true := by
  rw [(isort_perm dotLt _).mem_iff]; unfold kept; rw [List.mem_filter]
theorem ofD_can (l : List Dot) : Can (ofD l) ∧ (∀ x, Mem (ofD l) x ↔ rightD x = true ∧ x ∈ l) ∧ (ofD l).2.length ≤ l.length := by
  obtain ⟨h1, h2, h3, _⟩ := mk_can vok0 (isort dotLt (kept rightD l)) (fun d hd => (kept_mem.1 hd).2) (isort_sorted dotLt_swo _)
  refine ⟨h1, fun x => ?_, ?_⟩
  · rw [show Mem (ofD l) x ↔ _ from h2 x, kept_mem]
    constructor
    · rintro ⟨a, b | b⟩
      · obtain ⟨q0, q1, q2, _⟩ := (rightD_iff x).1 a
        rw [vat0 x.1 q0 q1] at b; omega
      · exact ⟨a, b.1⟩
    · rintro ⟨a, b⟩; exact ⟨a, .inr ⟨b, a⟩⟩
  · refine Nat.le_trans h3 ?_
    rw [(isort_perm dotLt _).length_eq]; exact List.length_filter_le _ _
theorem of_is (k : Nat) (l : List Dot) (hl : l.length < k) (hk : k < 1000000) : dots_Of.f k l = some (ofD l) := by
  have h1 : room ([] : List Int) l = true := by simp [room]; omega
  have h2 : (kept rightD l).length ≤ l.length := List.length_filter_le _ _
  have h3 : room ([] : List Int) (kept dotKeep l) = true := by simp [room]; have : (kept dotKeep l).length ≤ l.length := h2; omega
  rw [dots_Of.f_eq, h1, h3]
  simp only [br_true]
  rw [made_is k _ (by rw [(isort_perm dotLt _).length_eq]; exact Nat.lt_of_le_of_lt h2 hl) hk (fun d hd => (kept_mem.1 hd).2) (isort_sorted dotLt_swo _) _ vok0]
  rfl
theorem ofD_perm {l m : List Dot} (h : ∀ d, d ∈ l ↔ d ∈ m) : ofD l = ofD m :=
  can_unique (ofD_can l).1 (ofD_can m).1 fun d => by rw [(ofD_can l).2.1, (ofD_can m).2.1, h]
theorem rright_is (k : Nat) (d : Dot) : ref04_Right.f k d = some (rightD d) := by
  rw [ref04_Right.f_eq]
  have : ile d.1 15 = ilt d.1 16 := by unfold ile ilt; congr 1; exact propext ⟨fun h => by omega, fun h => by omega⟩
  rw [this]
  have := right_is k d
  rw [dot_Right.f_eq] at this
  exact this
/-- Is it one of them? -/
def memB (s : DSet) (d : Dot) : Bool := rightD d && (decide (d.2 ≤ vat s.1 d.1) || decide (d ∈ s.2))
theorem memB_iff (s : DSet) (d : Dot) : memB s d = true ↔ Mem s d := by simp [memB, Mem]
theorem vhas_is (k : Nat) (v : Vec) (d : Dot) : vec_Has.f k v d = some (rightD d && decide (d.2 ≤ vat v d.1)) := by
  rw [vec_Has.f_eq, right_is]
  simp only [bnd]
  cases h : rightD d with
  | false => rfl
  | true =>
    obtain ⟨a, b, _, _⟩ := (rightD_iff d).1 h
    rw [inB16 a b]; rfl
theorem rvhas_is (k : Nat) (v : Vec) (d : Dot) : ref05_Has.f k v d = some (rightD d && decide (d.2 ≤ vat v d.1)) := by
  rw [ref05_Has.f_eq, rright_is]
  simp only [bnd]
  cases h : rightD d with
  | false => rfl
  | true =>
    obtain ⟨a, b, _, _⟩ := (rightD_iff d).1 h
    rw [inB16 a b]; rfl
theorem any_step {α : Type} {xs : List α} {i : Nat} (h : i < xs.length) (p : α → Bool) : (xs.drop i).any p = (p xs[i] || (xs.drop (i + 1)).any p) := by
  rw [List.drop_eq_getElem_cons h, List.any_cons]
theorem rhas_l (k : Nat) (s : DSet) (d : Dot) (hl : s.2.length < 1000000) : ∀ (n i : Nat), i ≤ s.2.length → s.2.length < n + i → ref06_Has.l4 k n (i : Int) s d = some ((s.2.drop i).any fun e => decide (e = d))
  | 0, i, h, h' => by omega
  | n + 1, i, h, h' => by
    rw [ref06_Has.l4_eq, ilt_nat, inL_nat, natOf_nat]
    by_cases hi : i < s.2.length
    · rw [any_step hi, rd_at' (e := tDot) hi, deqD, iadd_nat (by omega), rhas_l k s d hl n (i + 1) (by omega) (by omega)]
      by_cases he : s.2[i] = d <;> simp [hi, he, br_true, br_false]
    · rw [List.drop_of_length_le (by omega)]; simp [hi, br_false]
theorem any_mem (l : List Dot) (d : Dot) : (l.any fun e => decide (e = d)) = decide (d ∈ l) := by
  rw [Bool.eq_iff_iff]; simp
theorem rhas_is (k : Nat) (s : DSet) (d : Dot) (hl : s.2.length < k) (hk : k < 1000000) (hr : ∀ e ∈ s.2, rightD e = true) : ref06_Has.f k s d = some (memB s d) := by
  rw [ref06_Has.f_eq, rvhas_is]
  simp only [bnd]
  have := rhas_l k s d (by omega) k 0 (by omega) (by omega)
  rw [List.drop_zero, any_mem] at this
  rw [show ref06_Has.l4 k k 0 s d = _ from this]
  unfold memB
  cases h : rightD d with
  | false =>
    have : d ∉ s.2 := fun hd => by rw [hr d hd] at h; cases h
    simp [this, br_false]
  | true =>
    by_cases h2 : d.2 ≤ vat s.1 d.1 <;> simp [h2, br_true, br_false]
end Go.Proofs.Ytennedlpmacicaa
