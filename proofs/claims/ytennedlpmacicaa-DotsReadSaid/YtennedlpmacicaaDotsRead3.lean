/- The statement of the law DotsRead: for every input the law returns true, and its arguments read as they did. No conditions. -/
import Derived.KernelRfl
import Derived.Test.YtennedlpmacicaaRows
import Derived.WalkKit
import Derived.ProofKit
import Derived.OpenShut
import Derived.ShutString
import Derived.ChangeOld
import Derived.Below
import Derived.Test.YtennedlpmacicaaFw1
import Derived.Test.YtennedlpmacicaaFw2
import Derived.Test.YtennedlpmacicaaFw3
import Derived.Test.YtennedlpmacicaaDotsRead1
import Derived.Test.YtennedlpmacicaaDotsRead2
section
/- What the functions of the layer of dots compute. -/
namespace Go.Proofs.Ytennedlpmacicaa
open Pal
theorem iadd_s {a b : Int} (h1 : -1000000000000 ≤ a) (h2 : a ≤ 1000000000000) (h3 : -1000000000000 ≤ b) (h4 : b ≤ 1000000000000) : iadd .i64 a b = a + b := by
  have e1 : ((2 : Int) ^ 63) = 9223372036854775808 := by decide
  show IntKind.wrap .i64 (a + b) = _
  rw [wrap_i64 (by rw [e1]; omega) (by rw [e1]; omega)]
theorem isub_s {a b : Int} (h1 : -1000000000000 ≤ a) (h2 : a ≤ 1000000000000) (h3 : -1000000000000 ≤ b) (h4 : b ≤ 1000000000000) : isub .i64 a b = a - b := by
  have e1 : ((2 : Int) ^ 63) = 9223372036854775808 := by decide
  show IntKind.wrap .i64 (a - b) = _
  rw [wrap_i64 (by rw [e1]; omega) (by rw [e1]; omega)]
theorem inB16 {r : Int} (h0 : 0 ≤ r) (h1 : r < 16) : inB r 16 = true := by simp [inB, h0]; omega
theorem room1 {α : Type} {xs : List α} {x : α} (h : xs.length < 4000000) : room xs (x :: []) = true := by simp [room]; omega
theorem ile_dec (a b : Int) : ile a b = decide (a ≤ b) := rfl
theorem ilt_dec (a b : Int) : ilt a b = decide (a < b) := rfl
theorem deqD (a b : Dot) : deq tDot a b = decide (a = b) := deq_dec (τ := tDot) rfl a b
theorem last_rd {M : List Dot} {m : Nat} (hl : M.length = m + 1) (hb : m < 4000000) : rd tDot M (natOf (isub .i64 (ilen M) 1)) = M[m] := by
  rw [isub_s (by unfold ilen; omega) (by unfold ilen; omega) (by omega) (by omega), show ilen M - 1 = (m : Int) by unfold ilen; omega, natOf_nat]
  exact rd_at' (e := tDot) (by omega)
theorem last_in {M : List Dot} {m : Nat} (hl : M.length = m + 1) (hb : m < 4000000) : inL (isub .i64 (ilen M) 1) M = true := by
  rw [isub_s (by unfold ilen; omega) (by unfold ilen; omega) (by omega) (by omega), show ilen M - 1 = (m : Int) by unfold ilen; omega, inL_nat]
  simp; omega
theorem getLast_is {M : List Dot} {m : Nat} (hl : M.length = m + 1) : M.getLast? = some M[m] := by
  rw [List.getLast?_eq_getElem?]; exact List.getElem?_eq_some_iff.2 ⟨by omega, by simp [hl]⟩
theorem take_next {l : List Dot} {i : Nat} (hi : i < l.length) : l.take (i + 1) = l.take i ++ [l[i]] := by rw [List.take_add_one, List.getElem?_eq_getElem hi]; rfl
theorem made_l (k : Nat) (l : List Dot) (hl : l.length < 1000000) (hr : ∀ d ∈ l, rightD d = true) (hs : l.Pairwise (fun a b => dotLt b a = false)) (v : Vec) (hv : VOk v) (za : Vec) (zb : List Dot) : ∀ (n i : Nat), i ≤ l.length → l.length < n + i →
    dots_made.l3 k n l (ilen l) (i : Int) za zb (mk v (l.take i)).1 (mk v (l.take i)).2 = some (mk v l)
  | 0, i, h, h' => by omega
  | n + 1, i, h, h' => by
    rw [dots_made.l3_eq, ilt_nat, inL_nat, natOf_nat]
    by_cases hi : i < l.length
    · have hstep : mk v (l.take (i + 1)) = put1 (mk v (l.take i)) l[i] := by rw [take_next hi]; unfold mk; rw [List.foldl_append]; rfl
      obtain ⟨hc, hm, hml, _⟩ := mk_can hv (l.take i) (fun d hd => hr d (List.mem_of_mem_take hd)) (hs.sublist (List.take_sublist i l))
      have ih := made_l k l hl hr hs v hv za zb n (i + 1) (by omega) (by omega)
      rw [hstep] at ih
      have hmk : mk v (l.take i) = mk v (l.take i) := rfl
      generalize mk v (l.take i) = s at hc hm hml ih hstep ⊢
      obtain ⟨V, M⟩ := s
      obtain ⟨r0, r1, r2, r3⟩ := (rightD_iff l[i]).1 (hr _ (List.getElem_mem hi))
      rw [rd_at' (e := tDot) hi, iadd_nat (by omega)]
      obtain ⟨d, hd⟩ : ∃ d : Dot, d = l[i] := ⟨_, rfl⟩
      rw [← hd] at r0 r1 r2 r3 ih ⊢
      have hvv : rd (.int .i64) V (natOf d.1) = vat V d.1 := rfl
      have v0 := hc.vok.lo d.1 r0 r1
      have v1 := hc.vok.hi d.1 r0 r1
      have v0' : 0 ≤ vat V d.1 := v0
      have v1' : vat V d.1 ≤ 1048576 := v1
      have hML : M.length ≤ i := by have : M.length ≤ (l.take i).length := hml; rw [List.length_take] at this; omega
      simp only [hi, decide_true, br_true, inB16 r0 r1, hvv, ile_dec]
      rw [iadd_s (by omega) (by omega) (by omega) (by omega), ieq_dec, ieq_dec]
      unfold put1 at ih
      by_cases h1 : d.2 ≤ vat V d.1
      · simp only [h1, decide_true, br_true, if_true] at ih ⊢; exact ih
      · by_cases h2 : d.2 = vat V d.1 + 1
        · rw [if_neg h1, if_pos h2] at ih
          rw [decide_eq_false h1, decide_eq_true h2]; exact ih
        · simp only [h1, h2, decide_false, br_false, if_false] at ih ⊢
          rw [room1 (by omega)]
          cases hM : M.length with
          | zero =>
            have hM0 : M = [] := List.eq_nil_of_length_eq_zero hM
            subst hM0
            simp only [List.getLast?_nil, reduceCtorEq, if_false] at ih
            have : decide (ilen ([] : List Dot) = 0) = true := rfl
            rw [this]; simp only [br_true]; exact ih
          | succ m =>
            have h4 : ¬ (ilen M = 0) := by unfold ilen; omega
            rw [last_in hM (by omega), last_rd hM (by omega), deqD, bnot_dec]
            simp only [h4, decide_false, br_true, br_false]
            rw [getLast_is hM] at ih
            by_cases h5 : M[m] = d
            · simp only [h5, if_true, decide_true, decide_false, not_true, br_false] at ih ⊢; exact ih
            · have h6 : ¬ (some M[m] = some d) := fun e => h5 (Option.some.inj e)
              simp only [h5, h6, if_false, not_false_eq_true, decide_true, br_true] at ih ⊢; exact ih
    · have : i = l.length := by omega
      subst this
      simp only [List.take_length, Nat.lt_irrefl, decide_false, br_false]
theorem made_is (k : Nat) (l : List Dot) (hl : l.length < k) (hk : k < 1000000) (hr : ∀ d ∈ l, rightD d = true) (hs : l.Pairwise (fun a b => dotLt b a = false)) (v : Vec) (hv : VOk v) : dots_made.f k v l = some (mk v l) := by
  rw [dots_made.f_eq]
  exact made_l k l (by omega) hr hs v hv (zarr 16 0) [] k 0 (by omega) (by omega)
theorem vok0 : VOk (zarr 16 0) := ⟨rfl, fun r h0 h1 => by
    obtain ⟨a, rfl⟩ := Int.eq_ofNat_of_zero_le h0
    have : a < 16 := by omega
    have e : vat (zarr 16 0) (a : Int) = 0 := by rw [vat_get (by show a < 16; omega)]; exact List.getElem_replicate ..
    rw [e]; exact Int.le_refl _, fun r h0 h1 => by
    obtain ⟨a, rfl⟩ := Int.eq_ofNat_of_zero_le h0
    have e : vat (zarr 16 0) (a : Int) = 0 := by rw [vat_get (by show a < 16; omega)]; exact List.getElem_replicate ..
    rw [e]; decide⟩
theorem vat0 (r : Int) (h0 : 0 ≤ r) (h1 : r < 16) : vat (zarr 16 0) r = 0 := by
  obtain ⟨a, rfl⟩ := Int.eq_ofNat_of_zero_le h0
  rw [vat_get (by show a < 16; omega)]; exact List.getElem_replicate ..
/-- The set of some dots. -/
def ofD (l : List Dot) : DSet := mk (zarr 16 0) (isort dotLt (kept rightD l))
theorem kept_mem {l : List Dot} {d : Dot} : d ∈ isort dotLt (kept rightD l) ↔ d ∈ l ∧ rightD d = true := by
  rw [(isort_perm dotLt _).mem_iff]; unfold kept; rw [List.mem_filter]
theorem ofD_can (l : List Dot) : Can (ofD l) ∧ (∀ x, Mem (ofD l) x ↔ rightD x = true ∧ x ∈ l) ∧ (ofD l).2.length ≤ l.length := by
  obtain ⟨h1, h2, h3, _⟩ := mk_can vok0 (isort dotLt (kept rightD l)) (fun d hd => (kept_mem.1 hd).2) (isort_sorted dotLt_swo _)
  refine ⟨h1, fun x => ?_, ?_⟩
  · rw [show Mem (ofD l) x ↔ _ from h2 x, kept_mem]
    constructor
    · rintro ⟨a, b | b⟩
      · obtain ⟨q0, q1, q2, _⟩ := (rightD_iff x).1 a
        rw [vat0 x.1 q0 q1] at b; omega
      · exact ⟨a, b.1⟩
    · rintro ⟨a, b⟩; exact ⟨a, .inr ⟨b, a⟩⟩
  · refine Nat.le_trans h3 ?_
    rw [(isort_perm dotLt _).length_eq]; exact List.length_filter_le _ _
theorem of_is (k : Nat) (l : List Dot) (hl : l.length < k) (hk : k < 1000000) : dots_Of.f k l = some (ofD l) := by
  have h1 : room ([] : List Int) l = true := by simp [room]; omega
  have h2 : (kept rightD l).length ≤ l.length := List.length_filter_le _ _
  have h3 : room ([] : List Int) (kept dotKeep l) = true := by simp [room]; have : (kept dotKeep l).length ≤ l.length := h2; omega
  rw [dots_Of.f_eq, h1, h3]
  simp only [br_true]
  rw [made_is k _ (by rw [(isort_perm dotLt _).length_eq]; exact Nat.lt_of_le_of_lt h2 hl) hk (fun d hd => (kept_mem.1 hd).2) (isort_sorted dotLt_swo _) _ vok0]
  rfl
theorem ofD_perm {l m : List Dot} (h : ∀ d, d ∈ l ↔ d ∈ m) : ofD l = ofD m :=
  can_unique (ofD_can l).1 (ofD_can m).1 fun d => by rw [(ofD_can l).2.1, (ofD_can m).2.1, h]
theorem rright_is (k : Nat) (d : Dot) : ref04_Right.f k d = some (rightD d) := by
  rw [ref04_Right.f_eq]
  have : ile d.1 15 = ilt d.1 16 := by unfold ile ilt; congr 1; exact propext ⟨fun h => by omega, fun h => by omega⟩
  rw [this]
  have := right_is k d
  rw [dot_Right.f_eq] at this
  exact this
/-- Is it one of them? -/
def memB (s : DSet) (d : Dot) : Bool := rightD d && (decide (d.2 ≤ vat s.1 d.1) || decide (d ∈ s.2))
theorem memB_iff (s : DSet) (d : Dot) : memB s d = true ↔ Mem s d := by simp [memB, Mem]
theorem vhas_is (k : Nat) (v : Vec) (d : Dot) : vec_Has.f k v d = some (rightD d && decide (d.2 ≤ vat v d.1)) := by
  rw [vec_Has.f_eq, right_is]
  simp only [bnd]
  cases h : rightD d with
  | false => rfl
  | true =>
    obtain ⟨a, b, _, _⟩ := (rightD_iff d).1 h
    rw [inB16 a b]; rfl
theorem rvhas_is (k : Nat) (v : Vec) (d : Dot) : ref05_Has.f k v d = some (rightD d && decide (d.2 ≤ vat v d.1)) := by
  rw [ref05_Has.f_eq, rright_is]
  simp only [bnd]
  cases h : rightD d with
  | false => rfl
  | true =>
    obtain ⟨a, b, _, _⟩ := (rightD_iff d).1 h
    rw [inB16 a b]; rfl
theorem any_step {α : Type} {xs : List α} {i : Nat} (h : i < xs.length) (p : α → Bool) : (xs.drop i).any p = (p xs[i] || (xs.drop (i + 1)).any p) := by
  rw [List.drop_eq_getElem_cons h, List.any_cons]
theorem rhas_l (k : Nat) (s : DSet) (d : Dot) (hl : s.2.length < 1000000) : ∀ (n i : Nat), i ≤ s.2.length → s.2.length < n + i → ref06_Has.l4 k n (i : Int) s d = some ((s.2.drop i).any fun e => decide (e = d))
  | 0, i, h, h' => by omega
  | n + 1, i, h, h' => by
    rw [ref06_Has.l4_eq, ilt_nat, inL_nat, natOf_nat]
    by_cases hi : i < s.2.length
    · rw [any_step hi, rd_at' (e := tDot) hi, deqD, iadd_nat (by omega), rhas_l k s d hl n (i + 1) (by omega) (by omega)]
      by_cases he : s.2[i] = d <;> simp [hi, he, br_true, br_false]
    · rw [List.drop_of_length_le (by omega)]; simp [hi, br_false]
theorem any_mem (l : List Dot) (d : Dot) : (l.any fun e => decide (e = d)) = decide (d ∈ l) := by
  rw [Bool.eq_iff_iff]; simp
theorem rhas_is (k : Nat) (s : DSet) (d : Dot) (hl : s.2.length < k) (hk : k < 1000000) (hr : ∀ e ∈ s.2, rightD e = true) : ref06_Has.f k s d = some (memB s d) := by
  rw [ref06_Has.f_eq, rvhas_is]
  simp only [bnd]
  have := rhas_l k s d (by omega) k 0 (by omega) (by omega)
  rw [List.drop_zero, any_mem] at this
  rw [show ref06_Has.l4 k k 0 s d = _ from this]
  unfold memB
  cases h : rightD d with
  | false =>
    have : d ∉ s.2 := fun hd => by rw [hr d hd] at h; cases h
    simp [this, br_false]
  | true =>
    by_cases h2 : d.2 ≤ vat s.1 d.1 <;> simp [h2, br_true, br_false]
end Go.Proofs.Ytennedlpmacicaa
end
section
/- What the functions of the layer of dots compute, on. -/
namespace Go.Proofs.Ytennedlpmacicaa
open Pal
theorem wrap_u64 {n : Int} (h1 : 0 ≤ n) (h2 : n < 2 ^ 63) : IntKind.wrap .u64 n = n := by
  have e1 : ((2 : Int) ^ 63) = 9223372036854775808 := by decide
  rw [e1] at h2
  simp only [IntKind.wrap, IntKind.signed, IntKind.bits]
  simp
  omega
theorem mid_is {i j : Nat} (h : i + j < 1000000000) : iwrap .i64 (ishr .u64 (iwrap .u64 (iadd .i64 (i : Int) (j : Int))) 1) = (((i + j) / 2 : Nat) : Int) := by
  have e1 : ((2 : Int) ^ 63) = 9223372036854775808 := by decide
  rw [iadd_s (by omega) (by omega) (by omega) (by omega)]
  unfold iwrap ishr
  rw [wrap_u64 (by omega) (by rw [e1]; omega)]
  have e2 : (2 : Int) ^ (min (1 : Int).toNat (IntKind.bits .u64)) = 2 := by decide
  rw [e2, show (i : Int) + (j : Int) = ((i + j : Nat) : Int) by omega]
  have e3 : Int.fdiv ((i + j : Nat) : Int) 2 = (((i + j) / 2 : Nat) : Int) := by
    rw [Int.fdiv_eq_ediv_of_nonneg _ (by decide)]; rfl
  rw [e3, wrap_i64 (by rw [e1]; omega) (by rw [e1]; omega)]
/-- Where a dot is laid in, and whether it is there. -/
def Found (l : List Dot) (d : Dot) (p : Nat) (b : Bool) : Prop :=
  p ≤ l.length ∧ (∀ j (h : j < l.length), j < p → dotLt l[j] d = true) ∧ (∀ j (h : j < l.length), p ≤ j → dotLt l[j] d = false) ∧ b = decide (d ∈ l)
theorem srt_get {l : List Dot} (hs : l.Pairwise (fun a b => dotLt a b = true)) {i j : Nat} (hi : i < l.length) (hj : j < l.length) (h : i < j) : dotLt l[i] l[j] = true := List.pairwise_iff_getElem.1 hs i j hi hj h
theorem cmp_lt0 (a b : Dot) : ilt (cmpD a b) 0 = dotLt a b := rfl
theorem cmp_eq0 (a b : Dot) : ieq (cmpD a b) 0 = decide (a = b) := by
  rw [ieq_dec]; congr 1
  unfold cmpD
  apply propext
  by_cases h : a.1 = b.1
  · rw [if_pos ((cmpI_eq _ _).2 h), cmpI_eq]; exact ⟨fun h2 => Prod.ext h h2, fun e => by rw [e]⟩
  · rw [if_neg (fun e => h ((cmpI_eq _ _).1 e)), cmpI_eq]; exact ⟨fun e => absurd e h, fun e => by rw [e]⟩
theorem bs_l (k : Nat) (l : List Dot) (d : Dot) (hl : l.length < 1000000) (hs : l.Pairwise (fun a b => dotLt a b = true)) : ∀ (n i j : Nat), i ≤ j → j ≤ l.length → j < n + i → (∀ t (h : t < l.length), t < i → dotLt l[t] d = true) → (∀ t (h : t < l.length), j ≤ t → dotLt l[t] d = false) →
    ∃ p b, Found l d p b ∧ slices_BinarySearchFunc_api_Dot_api_Dot_api_Dot_66.l3 (k + 3) n l (ilen l) (i : Int) (j : Int) d = some ((p : Int), b)
  | 0, i, j, h, _, h', _, _ => by omega
  | n + 1, i, j, hij, hj, hn, h1, h2 => by
    rw [slices_BinarySearchFunc_api_Dot_api_Dot_api_Dot_66.l3_eq, ilt_nn, mid_is (by omega)]
    by_cases hlt : i < j
    · have hm : (i + j) / 2 < l.length := by omega
      rw [inL_nat, natOf_nat, rd_at' (e := tDot) hm, cmpD_is]
      simp only [hlt, hm, decide_true, br_true, br_false, bnd, cmp_lt0]
      have hi' : i ≤ (i + j) / 2 := by omega
      have hj' : (i + j) / 2 < j := by omega
      generalize (i + j) / 2 = m at hm hi' hj' ⊢
      cases hc : dotLt l[m] d with
      | true =>
        rw [iadd_nat (by omega)]
        simp only [br_true]
        exact bs_l k l d hl hs n (m + 1) j (by omega) hj (by omega) (fun t ht htm => by
          rcases Nat.lt_or_ge t m with h | h
          · exact dotLt_swo.trans _ _ _ (srt_get hs ht hm h) hc
          · have : t = m := by omega
            subst this; exact hc) h2
      | false =>
        simp only [br_false]
        exact bs_l k l d hl hs n i m hi' (by omega) (by omega) h1 (fun t ht htm => by
          rcases Nat.lt_or_ge m t with h | h
          · cases hh : dotLt l[t] d with
            | false => rfl
            | true => exfalso; have := dotLt_swo.trans _ _ _ (srt_get hs hm ht h) hh; rw [hc] at this; cases this
          · have : t = m := by omega
            subst this; exact hc)
    · have : i = j := by omega
      subst this
      have hge : ∀ t (h : t < l.length), l[t] = d → i ≤ t := fun t h e => by
        rcases Nat.lt_or_ge t i with hh | hh
        · have := h1 t h hh; rw [e, dotLt_swo.irrefl] at this; cases this
        · exact hh
      simp only [Nat.lt_irrefl, decide_false, br_false, ilt_nat, inL_nat, natOf_nat]
      by_cases hil : i < l.length
      · rw [rd_at' (e := tDot) hil, cmpD_is]
        simp only [hil, decide_true, br_true, bnd, cmp_eq0]
        refine ⟨i, _, ⟨hj, h1, h2, ?_⟩, rfl⟩
        congr 1
        apply propext
        constructor
        · intro e; rw [← e]; exact List.getElem_mem hil
        · intro e
          obtain ⟨t, ht, he⟩ := List.getElem_of_mem e
          have h3 := hge t ht he
          rcases Nat.lt_or_ge i t with hh | hh
          · have h4 := srt_get hs hil ht hh
            rw [he] at h4
            have := h2 i hil (Nat.le_refl _)
            rw [h4] at this; cases this
          · have : t = i := by omega
            subst this; exact he
      · simp only [hil, decide_false, br_false]
        refine ⟨i, _, ⟨hj, h1, h2, ?_⟩, rfl⟩
        symm; rw [decide_eq_false_iff_not]
        intro e
        obtain ⟨t, ht, he⟩ := List.getElem_of_mem e
        have := hge t ht he; omega
theorem bs_is (k : Nat) (l : List Dot) (d : Dot) (h3 : 3 ≤ k) (hl : l.length < k) (hk : k < 1000000) (hs : l.Pairwise (fun a b => dotLt a b = true)) : ∃ p b, Found l d p b ∧ slices_BinarySearchFunc_api_Dot_api_Dot_api_Dot_66.f k l d = some ((p : Int), b) := by
  obtain ⟨q, rfl⟩ : ∃ q, k = q + 3 := ⟨k - 3, by omega⟩
  rw [slices_BinarySearchFunc_api_Dot_api_Dot_api_Dot_66.f_eq]
  exact bs_l q l d (by omega) hs (q + 3) 0 l.length (by omega) (Nat.le_refl _) (by omega) (fun t _ h => by omega) (fun t h h' => by omega)
theorem has_is (k : Nat) (s : DSet) (d : Dot) (h3 : 3 ≤ k) (hl : s.2.length < k) (hk : k < 1000000) (hs : Can s) : dots_Has.f k s d = some (memB s d) := by
  rw [dots_Has.f_eq, vhas_is]
  simp only [bnd]
  obtain ⟨p, b, hf, he⟩ := bs_is k s.2 d h3 hl hk hs.srt
  rw [he, hf.2.2.2]
  unfold memB
  cases h : rightD d with
  | false =>
    have : d ∉ s.2 := fun hd => by rw [hs.rt d hd] at h; cases h
    simp [this, br_false]
  | true =>
    by_cases h2 : d.2 ≤ vat s.1 d.1 <;> simp [h2, br_true, br_false]
/-- A dot laid in its place. -/
def insR (d : Dot) : List Dot → List Dot
  | [] => [d]
  | y :: r => if dotLt d y then d :: y :: r else y :: insR d r
theorem insR_perm (d : Dot) : ∀ l, (insR d l).Perm (d :: l)
  | [] => List.Perm.refl _
  | y :: r => by
    unfold insR
    split
    · exact List.Perm.refl _
    · exact ((insR_perm d r).cons y).trans (List.Perm.swap d y r)
theorem insR_srt {d : Dot} : ∀ {l : List Dot}, l.Pairwise (fun a b => dotLt a b = true) → d ∉ l → (insR d l).Pairwise (fun a b => dotLt a b = true)
  | [], _, _ => List.pairwise_singleton _ _
  | y :: r, h, hd => by
    have h' := List.pairwise_cons.1 h
    unfold insR
    split
    · rename_i hy
      refine List.pairwise_cons.2 ⟨fun z hz => ?_, h⟩
      rcases List.mem_cons.1 hz with rfl | hz
      · exact hy
      · exact dotLt_swo.trans _ _ _ hy (h'.1 z hz)
    · rename_i hy
      have hyd : dotLt y d = true := by
        cases hh : dotLt y d with
        | true => rfl
        | false => exact absurd (by rw [dotLt_tot y d hh (by simpa using hy)]; exact List.mem_cons_self) hd
      refine List.pairwise_cons.2 ⟨fun z hz => ?_, insR_srt h'.2 (fun hh => hd (List.mem_cons_of_mem _ hh))⟩
      rcases List.mem_cons.1 ((insR_perm d r).mem_iff.1 hz) with rfl | hz
      · exact hyd
      · exact h'.1 z hz
theorem insAt_is {l : List Dot} {d : Dot} {p : Nat} {b : Bool} (hf : Found l d p b) (hd : d ∉ l) (hs : l.Pairwise (fun a b => dotLt a b = true)) : insAt l (p : Int) (d :: []) = insR d l := by
  have hlt : ∀ t (h : t < l.length), p ≤ t → dotLt d l[t] = true := fun t h hp => by
    cases hh : dotLt d l[t] with
    | true => rfl
    | false => exact absurd (by rw [dotLt_tot d l[t] hh (hf.2.2.1 t h hp)]; exact List.getElem_mem h) hd
  have e : insAt l (p : Int) (d :: []) = l.take p ++ d :: l.drop p := rfl
  refine srt_unique ?_ (insR_srt hs hd) fun x => ?_
  · rw [e]
    refine List.pairwise_append.2 ⟨hs.sublist (List.take_sublist _ _), List.pairwise_cons.2 ⟨fun z hz => ?_, hs.sublist (List.drop_sublist _ _)⟩, fun x hx y hy => ?_⟩
    · obtain ⟨t, ht, rfl⟩ := List.getElem_of_mem hz
      rw [List.getElem_drop]
      exact hlt _ (by rw [List.length_drop] at ht; omega) (by omega)
    · obtain ⟨t, ht, rfl⟩ := List.getElem_of_mem hx
      rw [List.getElem_take]
      have ht2 : t < p ∧ t < l.length := by rw [List.length_take] at ht; omega
      have h1 := hf.2.1 t ht2.2 ht2.1
      rcases List.mem_cons.1 hy with rfl | hy
      · exact h1
      · obtain ⟨u, hu, rfl⟩ := List.getElem_of_mem hy
        rw [List.getElem_drop]
        exact srt_get hs ht2.2 (by rw [List.length_drop] at hu; omega) (by omega)
  · rw [e, (insR_perm d l).mem_iff, List.mem_append, List.mem_cons, List.mem_cons]
    have : x ∈ l ↔ x ∈ l.take p ∨ x ∈ l.drop p := by rw [← List.mem_append, List.take_append_drop]
    rw [this]
    exact ⟨fun h => h.elim (fun h => .inr (.inl h)) (fun h => h.elim .inl (fun h => .inr (.inr h))), fun h => h.elim (fun h => .inr (.inl h)) (fun h => h.elim .inl (fun h => .inr (.inr h)))⟩
/-- The set with a dot more. -/
def putD (s : DSet) (d : Dot) : DSet := if memB s d = true ∨ rightD d = false then s else mk s.1 (insR d s.2)
theorem insR_weak {d : Dot} {l : List Dot} (hs : l.Pairwise (fun a b => dotLt a b = true)) (hd : d ∉ l) : (insR d l).Pairwise (fun a b => dotLt b a = false) := (insR_srt hs hd).imp dotLt_asym
theorem putD_can {s : DSet} (hs : Can s) (d : Dot) : Can (putD s d) ∧ (∀ x, Mem (putD s d) x ↔ Mem s x ∨ (rightD d = true ∧ x = d)) ∧ (putD s d).2.length ≤ s.2.length + 1 := by
  unfold putD
  by_cases h : memB s d = true ∨ rightD d = false
  · rw [if_pos h]
    refine ⟨hs, fun x => ⟨.inl, fun hh => hh.elim id fun ⟨h1, h2⟩ => ?_⟩, by omega⟩
    subst h2
    rcases h with h | h
    · exact (memB_iff s x).1 h
    · rw [h] at h1; cases h1
  · rw [if_neg h]
    have h1 : ¬ Mem s d := fun hm => h (.inl ((memB_iff s d).2 hm))
    have h2 : rightD d = true := by cases hh : rightD d with
      | true => rfl
      | false => exact absurd (.inr hh) h
    have hn : d ∉ s.2 := fun hd => h1 ⟨h2, .inr hd⟩
    obtain ⟨q1, q2, q3, _⟩ := mk_can hs.vok (insR d s.2) (fun e he => by
      rcases List.mem_cons.1 ((insR_perm d s.2).mem_iff.1 he) with rfl | he
      · exact h2
      · exact hs.rt e he) (insR_weak hs.srt hn)
    refine ⟨q1, fun x => ?_, by rw [(insR_perm d s.2).length_eq] at q3; simpa using q3⟩
    rw [q2, (insR_perm d s.2).mem_iff, List.mem_cons]
    constructor
    · rintro ⟨a, b | b | b⟩
      · exact .inl ⟨a, .inl b⟩
      · exact .inr ⟨h2, b⟩
      · exact .inl ⟨a, .inr b⟩
    · rintro (⟨a, b⟩ | ⟨a, b⟩)
      · exact ⟨a, b.imp id .inr⟩
      · exact ⟨by rw [b]; exact a, .inr (.inl b)⟩
theorem put_is (k : Nat) (s : DSet) (d : Dot) (h3 : 3 ≤ k) (hl : s.2.length + 1 < k) (hk : k < 1000000) (hs : Can s) : dots_Put.f k s d = some (putD s d) := by
  rw [dots_Put.f_eq, right_is, has_is k s d h3 (by omega) hk hs]
  simp only [bnd]
  unfold putD
  cases h : rightD d with
  | false => simp [bnot, br_true]
  | true =>
    cases hm : memB s d with
    | true => simp [bnot, br_true, br_false]
    | false =>
      have hn : d ∉ s.2 := fun hd => by
        have := (memB_iff s d).2 ⟨h, .inr hd⟩
        rw [hm] at this; cases this
      obtain ⟨p, b, hf, he⟩ := bs_is k s.2 d h3 (by omega) hk hs.srt
      rw [he]
      dsimp only
      have e1 : room ([] : List Int) s.2 = true := by simp [room]; omega
      have e2 : inS 0 (p : Int) (ilen s.2) = true := by have := hf.1; simp [inS, ilen]; omega
      have hb0 : bnot true = false := rfl
      rw [e1, e2, room1 (by omega), insAt_is hf hn hs.srt, hb0]
      simp only [br_true, br_false]
      rw [made_is k _ (by rw [(insR_perm d s.2).length_eq]; simpa using hl) hk (fun e he => by
        rcases List.mem_cons.1 ((insR_perm d s.2).mem_iff.1 he) with rfl | he
        · exact h
        · exact hs.rt e he) (insR_weak hs.srt hn) _ hs.vok]
      simp
end Go.Proofs.Ytennedlpmacicaa
end
section
/- What the document's functions of the layer of dots compute. -/
namespace Go.Proofs.Ytennedlpmacicaa
open Pal
theorem filled_l (k : Nat) (s : DSet) (hl : s.2.length < 1000000) (hr : ∀ d ∈ s.2, rightD d = true) (hs : s.2.Pairwise (fun a b => dotLt a b = true)) (hv : VOk s.1) (za : Vec) (zb : List Dot) : ∀ (n i : Nat), i ≤ s.2.length → s.2.length < n + i →
    ref06_filled.l3 k n (i : Int) s za zb (mk s.1 (s.2.take i)).1 (mk s.1 (s.2.take i)).2 = some (mk s.1 s.2)
  | 0, i, h, h' => by omega
  | n + 1, i, h, h' => by
    rw [ref06_filled.l3_eq, ilt_nat, inL_nat, natOf_nat]
    by_cases hi : i < s.2.length
    · have hstep : mk s.1 (s.2.take (i + 1)) = put1 (mk s.1 (s.2.take i)) s.2[i] := by rw [take_next hi]; unfold mk; rw [List.foldl_append]; rfl
      have hws : s.2.Pairwise (fun a b => dotLt b a = false) := hs.imp dotLt_asym
      obtain ⟨hc, hm, hml, hin⟩ := mk_can hv (s.2.take i) (fun d hd => hr d (List.mem_of_mem_take hd)) (hws.sublist (List.take_sublist i s.2))
      have ih := filled_l k s hl hr hs hv za zb n (i + 1) (by omega) (by omega)
      rw [hstep] at ih
      have hnl : (mk s.1 (s.2.take i)).2.getLast? ≠ some s.2[i] := fun e => by
        have h1 := hin _ (List.mem_of_getLast? e)
        obtain ⟨t, ht, he⟩ := List.getElem_of_mem h1
        have ht2 : t < i := by rw [List.length_take] at ht; omega
        rw [List.getElem_take] at he
        have := srt_get hs (by omega) hi ht2
        rw [he, dotLt_swo.irrefl] at this; cases this
      generalize mk s.1 (s.2.take i) = t at hc hm hml ih hstep hin hnl ⊢
      obtain ⟨V, M⟩ := t
      obtain ⟨r0, r1, r2, r3⟩ := (rightD_iff s.2[i]).1 (hr _ (List.getElem_mem hi))
      rw [rd_at' (e := tDot) hi, iadd_nat (by omega)]
      obtain ⟨d, hd⟩ : ∃ d : Dot, d = s.2[i] := ⟨_, rfl⟩
      rw [← hd] at r0 r1 r2 r3 ih hnl ⊢
      have hvv : rd (.int .i64) V (natOf d.1) = vat V d.1 := rfl
      have v0 : 0 ≤ vat V d.1 := hc.vok.lo d.1 r0 r1
      have v1 : vat V d.1 ≤ 1048576 := hc.vok.hi d.1 r0 r1
      have hML : M.length ≤ i := by have : M.length ≤ (s.2.take i).length := hml; rw [List.length_take] at this; omega
      simp only [hi, decide_true, br_true, inB16 r0 r1, hvv, ilt_dec]
      rw [iadd_s (by omega) (by omega) (by omega) (by omega), ieq_dec]
      unfold put1 at ih
      by_cases h1 : d.2 ≤ vat V d.1
      · rw [if_pos h1] at ih
        rw [decide_eq_false (show ¬ d.2 = vat V d.1 + 1 by omega), decide_eq_false (show ¬ vat V d.1 < d.2 by omega)]
        exact ih
      · rw [if_neg h1] at ih
        by_cases h2 : d.2 = vat V d.1 + 1
        · rw [if_pos h2] at ih
          rw [decide_eq_true h2]; exact ih
        · rw [if_neg h2, if_neg hnl] at ih
          rw [decide_eq_false h2, decide_eq_true (show vat V d.1 < d.2 by omega), room1 (by omega)]
          exact ih
    · have : i = s.2.length := by omega
      subst this
      simp only [List.take_length, Nat.lt_irrefl, decide_false, br_false]
theorem filled_is (k : Nat) (s : DSet) (hl : s.2.length < k) (hk : k < 1000000) (hr : ∀ d ∈ s.2, rightD d = true) (hs : s.2.Pairwise (fun a b => dotLt a b = true)) (hv : VOk s.1) : ref06_filled.f k s = some (mk s.1 s.2) := by
  rw [ref06_filled.f_eq]
  exact filled_l k s (by omega) hr hs hv (zarr 16 0) [] k 0 (by omega) (by omega)
theorem rcmp_is (k : Nat) (a b : Dot) : ref04_Compare.f k a b = some (cmpD a b) := by
  rw [ref04_Compare.f_eq, ref04_ints.f_eq, ref04_ints.f_eq, ieq_dec, bnot_dec]
  have hI : ∀ x y : Int, br (ilt x y) (some (-1)) (br (ilt y x) (some 1) (some 0)) = some (cmpI x y) := fun x y => by
    unfold cmpI
    by_cases h1 : x < y
    · simp [ilt, h1, br_true]
    · by_cases h2 : y < x <;> simp [ilt, h1, h2, br_true, br_false]
  have hI' : ∀ x y : Int, bnd (br (ilt x y) (some (-1)) (br (ilt y x) (some 1) (some 0))) (fun r => some r) = some (cmpI x y) := fun x y => by rw [hI]; rfl
  rw [hI', hI']
  unfold cmpD
  by_cases h : a.1 = b.1
  · rw [if_pos ((cmpI_eq _ _).2 h)]; simp [h, br_false]
  · rw [if_neg (fun e => h ((cmpI_eq _ _).1 e))]; simp [h, br_true]
theorem rput_l (k : Nat) (s : DSet) (d : Dot) (hl : s.2.length < 1000000) (za : Vec) (zb : List Dot) : ∀ (n i : Nat) (x : List Dot) (b : Bool), i ≤ s.2.length → s.2.length < n + i → x.length ≤ i + b.toNat →
    ref06_Put.l6 k n x b (i : Int) s d za zb = bnd (ref06_filled.f k (s.1, x ++ if b then s.2.drop i else insR d (s.2.drop i))) fun r => some r
  | 0, i, _, _, h, h', _ => by omega
  | n + 1, i, x, b, h, h', hx => by
    rw [ref06_Put.l6_eq, ilt_nat, inL_nat, natOf_nat]
    by_cases hi : i < s.2.length
    · rw [List.drop_eq_getElem_cons hi, rd_at' (e := tDot) hi, iadd_nat (by omega), rcmp_is]
      have hbn : b.toNat ≤ 1 := by cases b <;> decide
      have hrm : ∀ y : Dot, room x (y :: []) = true := fun y => room1 (by omega)
      have hrm2 : ∀ y z : Dot, room (app x (y :: [])) (z :: []) = true := fun y z => room1 (by simp [app]; omega)
      simp only [hi, decide_true, br_true, bnd_some, cmp_lt0, hrm, hrm2]
      cases b with
      | true =>
        have hb : bnot true = false := rfl
        rw [hb]
        simp only [br_false]
        rw [rput_l k s d hl za zb n (i + 1) _ true (by omega) (by omega) (by simp [app] at hx ⊢; omega)]
        simp [app]
      | false =>
        have hb : bnot false = true := rfl
        rw [hb]
        simp only [br_true, Bool.false_eq_true, if_false]
        unfold insR
        cases hc : dotLt d s.2[i] with
        | true =>
          simp only [br_true, if_true]
          rw [rput_l k s d hl za zb n (i + 1) _ true (by omega) (by omega) (by simp [app] at hx ⊢; omega)]
          simp [app]
        | false =>
          simp only [br_false, Bool.false_eq_true, if_false]
          rw [rput_l k s d hl za zb n (i + 1) _ false (by omega) (by omega) (by simp [app] at hx ⊢; omega)]
          simp [app]
    · rw [List.drop_of_length_le (by omega)]
      simp only [hi, decide_false, br_false]
      cases b with
      | true => have hb : bnot true = false := rfl
                rw [hb]; simp [br_false]
      | false => have hb : bnot false = true := rfl
                 have hx' : x.length ≤ i := hx
                 rw [hb, room1 (by omega)]; simp [br_true, insR, app]
theorem rput_is (k : Nat) (s : DSet) (d : Dot) (hl : s.2.length + 1 < k) (hk : k < 1000000) (hs : Can s) : ref06_Put.f k s d = some (putD s d) := by
  rw [ref06_Put.f_eq, rright_is, rhas_is k s d (by omega) hk hs.rt]
  simp only [bnd_some]
  unfold putD
  cases h : rightD d with
  | false => simp [bnot, br_true]
  | true =>
    cases hm : memB s d with
    | true => simp [bnot, br_true, br_false]
    | false =>
      have hn : d ∉ s.2 := fun hd => by
        have := (memB_iff s d).2 ⟨h, .inr hd⟩
        rw [hm] at this; cases this
      have hb0 : bnot true = false := rfl
      rw [hb0]
      simp only [br_false]
      have := rput_l k s d (by omega) (zarr 16 0) [] k 0 [] false (by omega) (by omega) (by simp)
      rw [show ref06_Put.l6 k k [] false 0 s d (zarr 16 0) [] = _ from this]
      simp only [List.drop_zero, List.nil_append, Bool.false_eq_true, if_false]
      rw [filled_is k (s.1, insR d s.2) (by show (insR d s.2).length < k; rw [(insR_perm d s.2).length_eq]; simpa using hl) hk (fun e he => by
        rcases List.mem_cons.1 ((insR_perm d s.2).mem_iff.1 he) with rfl | he
        · exact h
        · exact hs.rt e he) (insR_srt hs.srt hn) hs.vok]
      simp [bnd]
theorem rof_l (k : Nat) (l : List Dot) (hl : l.length + 1 < k) (hk : k < 1000000) (za : Vec) (zb : List Dot) : ∀ (n i : Nat) (s : DSet), i ≤ l.length → l.length < n + i → s = ofD (l.take i) → ref06_Of.l3 k n l (i : Int) za zb s = some (ofD l)
  | 0, i, _, h, h', _ => by omega
  | n + 1, i, s, h, h', hs => by
    rw [ref06_Of.l3_eq, ilt_nat, inL_nat, natOf_nat]
    by_cases hi : i < l.length
    · obtain ⟨c1, c2, c3⟩ := ofD_can (l.take i)
      rw [← hs] at c1 c2 c3
      rw [List.length_take] at c3
      rw [rd_at' (e := tDot) hi, iadd_nat (by omega), rput_is k s l[i] (by omega) hk c1]
      simp only [hi, decide_true, br_true, bnd_some]
      refine rof_l k l hl hk za zb n (i + 1) _ (by omega) (by omega) ?_
      obtain ⟨p1, p2, _⟩ := putD_can c1 l[i]
      refine can_unique p1 (ofD_can _).1 fun x => ?_
      rw [p2, c2, (ofD_can _).2.1, take_next hi, List.mem_append, List.mem_singleton]
      constructor
      · rintro (⟨a, b⟩ | ⟨a, b⟩)
        · exact ⟨a, .inl b⟩
        · exact ⟨by rw [b]; exact a, .inr b⟩
      · rintro ⟨a, b | b⟩
        · exact .inl ⟨a, b⟩
        · exact .inr ⟨by rw [← b]; exact a, b⟩
    · have : i = l.length := by omega
      subst this
      rw [List.take_length] at hs
      simp only [Nat.lt_irrefl, decide_false, br_false, hs]
theorem rof_is (k : Nat) (l : List Dot) (hl : l.length + 1 < k) (hk : k < 1000000) : ref06_Of.f k l = some (ofD l) := by
  rw [ref06_Of.f_eq]
  exact rof_l k l hl hk (zarr 16 0) [] k 0 _ (by omega) (by omega) rfl
end Go.Proofs.Ytennedlpmacicaa
end
section
/- The same, and right, among sets of dots. -/
namespace Go.Proofs.Ytennedlpmacicaa
open Pal
theorem eqD_l (k : Nat) (xs ys : List Dot) (hl : xs.length = ys.length) (hb : xs.length < 1000000) : ∀ (n i : Nat), i ≤ xs.length → xs.length < n + i →
    slices_Equal_api_Dot_api_Dot.l4 k n xs ys (ilen xs) (i : Int) = some (zall (fun x y => decide (x = y)) (xs.drop i) (ys.drop i))
  | 0, i, h, h' => by omega
  | n + 1, i, h, h' => by
    rw [slices_Equal_api_Dot_api_Dot.l4_eq, ilt_nat, inL_nat, inL_nat, natOf_nat]
    by_cases hi : i < xs.length
    · have hi' : i < ys.length := by omega
      rw [zall_step hi hi', rd_at' (e := tDot) hi, rd_at' (e := tDot) hi', deqD, bnot_dec, iadd_nat (by omega)]
      simp only [hi, hi', decide_true, br_true]
      by_cases he : xs[i] = ys[i]
      · simp only [he, not_true, decide_true, decide_false, br_false, Bool.true_and]
        exact eqD_l k xs ys hl hb n (i + 1) (by omega) (by omega)
      · simp only [he, not_false_eq_true, decide_false, decide_true, br_true, Bool.false_and]
    · rw [zall_end (by omega)]
      simp only [hi, decide_false, br_false]
theorem eqD (k : Nat) (xs ys : List Dot) (hb : xs.length < k) (hk : k < 1000000) : slices_Equal_api_Dot_api_Dot.f k xs ys = some (decide (xs = ys)) := by
  rw [slices_Equal_api_Dot_api_Dot.f_eq, ieq_len, bnot_dec]
  by_cases hl : xs.length = ys.length
  · simp only [hl, not_true, decide_false, br_false]
    have := eqD_l k xs ys hl (by omega) k 0 (by omega) (by omega)
    simp only [List.drop_zero, zall_eq xs ys hl] at this
    exact this
  · have : xs ≠ ys := fun e => hl (by rw [e])
    simp only [hl, this, not_false_eq_true, decide_true, decide_false, br_true]
theorem reqD_l (k : Nat) (xs ys : List Dot) (hl : xs.length = ys.length) (hb : xs.length < 1000000) : ∀ (n i : Nat), i ≤ xs.length → xs.length < n + i →
    ref04_Same.l4 k n xs ys (i : Int) = some (zall (fun x y => decide (x = y)) (xs.drop i) (ys.drop i))
  | 0, i, h, h' => by omega
  | n + 1, i, h, h' => by
    rw [ref04_Same.l4_eq, ilt_nat, inL_nat, inL_nat, natOf_nat]
    by_cases hi : i < xs.length
    · have hi' : i < ys.length := by omega
      rw [zall_step hi hi', rd_at' (e := tDot) hi, rd_at' (e := tDot) hi', deqD, bnot_dec, iadd_nat (by omega)]
      simp only [hi, hi', decide_true, br_true]
      by_cases he : xs[i] = ys[i]
      · simp only [he, not_true, decide_true, decide_false, br_false, Bool.true_and]
        exact reqD_l k xs ys hl hb n (i + 1) (by omega) (by omega)
      · simp only [he, not_false_eq_true, decide_false, decide_true, br_true, Bool.false_and]
    · rw [zall_end (by omega)]
      simp only [hi, decide_false, br_false]
theorem reqD (k : Nat) (xs ys : List Dot) (hb : xs.length < k) (hk : k < 1000000) : ref04_Same.f k xs ys = some (decide (xs = ys)) := by
  rw [ref04_Same.f_eq, ieq_len, bnot_dec]
  by_cases hl : xs.length = ys.length
  · simp only [hl, not_true, decide_false, br_false]
    have := reqD_l k xs ys hl (by omega) k 0 (by omega) (by omega)
    simp only [List.drop_zero, zall_eq xs ys hl] at this
    exact this
  · have : xs ≠ ys := fun e => hl (by rw [e])
    simp only [hl, this, not_false_eq_true, decide_true, decide_false, br_true]
theorem deqV (a b : Vec) : deq tVec a b = decide (a = b) := by
  have h := deq_iff tVec rfl a b
  by_cases he : a = b
  · rw [decide_eq_true he]; exact h.2 he
  · rw [decide_eq_false he, ← Bool.not_eq_true, h]; exact he
theorem same_is (k : Nat) (s t : DSet) (hb : s.2.length < k) (hk : k < 1000000) : dots_Same.f k s t = some (decide (s = t)) := by
  rw [dots_Same.f_eq, deqV, eqD k _ _ hb hk]
  obtain ⟨a, b⟩ := s
  obtain ⟨c, d⟩ := t
  by_cases h1 : a = c <;> by_cases h2 : b = d <;> simp [h1, h2, br_true, br_false, bnd]
theorem rsame_is (k : Nat) (s t : DSet) (hb : s.2.length < k) (hk : k < 1000000) : ref06_Same.f k s t = some (decide (s = t)) := by
  rw [ref06_Same.f_eq, deqV, reqD k _ _ hb hk]
  obtain ⟨a, b⟩ := s
  obtain ⟨c, d⟩ := t
  by_cases h1 : a = c <;> by_cases h2 : b = d <;> simp [h1, h2, br_true, br_false, bnd]
/-! ### Right -/
def vin (v : Vec) (r : Int) : Prop := 0 ≤ vat v r ∧ vat v r ≤ 1048576
theorem rvr_l (k : Nat) (v : Vec) : ∀ (n i : Nat), i ≤ 16 → 16 < n + i → ∃ b, ref05_Right.l2 k n (i : Int) v = some b ∧ (b = true ↔ ∀ r : Nat, i ≤ r → r < 16 → vin v r)
  | 0, i, h, h' => by omega
  | n + 1, i, h, h' => by
    rw [ref05_Right.l2_eq, natOf_nat]
    have e1 : ilt (i : Int) 16 = decide (i < 16) := ilt_nn i 16
    rw [e1, inB_nat]
    by_cases hi : i < 16
    · have hv : rd (.int .i64) v i = vat v (i : Int) := rfl
      rw [hv, iadd_nat (by omega), ilt_dec, ilt_dec]
      simp only [hi, decide_true, br_true]
      by_cases h1 : vat v (i : Int) < 0
      · simp only [h1, decide_true, br_true]
        exact ⟨false, rfl, ⟨fun h => (by cases h), fun h => by have := (h i (Nat.le_refl _) hi).1; omega⟩⟩
      · simp only [h1, decide_false, br_false]
        by_cases h2 : 1048576 < vat v (i : Int)
        · simp only [h2, decide_true, br_true]
          exact ⟨false, rfl, ⟨fun h => (by cases h), fun h => by have := (h i (Nat.le_refl _) hi).2; omega⟩⟩
        · simp only [h2, decide_false, br_false]
          obtain ⟨b, hb, hbi⟩ := rvr_l k v n (i + 1) (by omega) (by omega)
          refine ⟨b, hb, hbi.trans ⟨fun h r hr hr2 => ?_, fun h r hr hr2 => h r (by omega) hr2⟩⟩
          by_cases he : r = i
          · subst he; exact ⟨by omega, by omega⟩
          · exact h r (by omega) hr2
    · simp only [hi, decide_false, br_false]
      exact ⟨true, rfl, ⟨fun _ r hr hr2 => by omega, fun _ => rfl⟩⟩
theorem vok_iff {v : Vec} (hl : v.length = 16) : VOk v ↔ ∀ r : Nat, 0 ≤ r → r < 16 → vin v r := by
  constructor
  · intro h r _ hr; exact ⟨h.lo r (by omega) (by omega), h.hi r (by omega) (by omega)⟩
  · intro h
    refine ⟨hl, fun r h0 h1 => ?_, fun r h0 h1 => ?_⟩
    · obtain ⟨a, rfl⟩ := Int.eq_ofNat_of_zero_le h0; exact (h a (by omega) (by omega)).1
    · obtain ⟨a, rfl⟩ := Int.eq_ofNat_of_zero_le h0; exact (h a (by omega) (by omega)).2
theorem rvr_is (k : Nat) (v : Vec) (hl : v.length = 16) (hk : 17 < k) : ∃ b, ref05_Right.f k v = some b ∧ (b = true ↔ VOk v) := by
  rw [ref05_Right.f_eq, vok_iff hl]
  exact rvr_l k v k 0 (by omega) (by omega)
theorem vr_l (k : Nat) (v : Vec) : ∀ (n i : Nat), i ≤ 16 → 16 < n + i → ∃ b, vec_Right.l2 k n v (i : Int) = some b ∧ (b = true ↔ ∀ r : Nat, i ≤ r → r < 16 → vin v r)
  | 0, i, h, h' => by omega
  | n + 1, i, h, h' => by
    rw [vec_Right.l2_eq, natOf_nat]
    have e1 : ilt (i : Int) 16 = decide (i < 16) := ilt_nn i 16
    rw [e1, inB_nat]
    by_cases hi : i < 16
    · have hv : rd (.int .i64) v i = vat v (i : Int) := rfl
      rw [hv, iadd_nat (by omega), ilt_dec, ilt_dec]
      simp only [hi, decide_true, br_true]
      by_cases h1 : vat v (i : Int) < 0
      · simp only [h1, decide_true, br_true]
        exact ⟨false, rfl, ⟨fun h => (by cases h), fun h => by have := (h i (Nat.le_refl _) hi).1; omega⟩⟩
      · simp only [h1, decide_false, br_false]
        by_cases h2 : 1048576 < vat v (i : Int)
        · simp only [h2, decide_true, br_true]
          exact ⟨false, rfl, ⟨fun h => (by cases h), fun h => by have := (h i (Nat.le_refl _) hi).2; omega⟩⟩
        · simp only [h2, decide_false, br_false]
          obtain ⟨b, hb, hbi⟩ := vr_l k v n (i + 1) (by omega) (by omega)
          refine ⟨b, hb, hbi.trans ⟨fun h r hr hr2 => ?_, fun h r hr hr2 => h r (by omega) hr2⟩⟩
          by_cases he : r = i
          · subst he; exact ⟨by omega, by omega⟩
          · exact h r (by omega) hr2
    · simp only [hi, decide_false, br_false]
      exact ⟨true, rfl, ⟨fun _ r hr hr2 => by omega, fun _ => rfl⟩⟩
theorem vr_is (k : Nat) (v : Vec) (hl : v.length = 16) (hk : 17 < k) : ∃ b, vec_Right.f k v = some b ∧ (b = true ↔ VOk v) := by
  rw [vec_Right.f_eq, vok_iff hl]
  exact vr_l k v k 0 (by omega) (by omega)
/-- One of a set's dots behind gaps, and the one ahead of it. -/
def okAt (s : DSet) (j : Nat) (h : j < s.2.length) : Prop := rightD s.2[j] = true ∧ vat s.1 s.2[j].1 + 1 < s.2[j].2 ∧ (∀ h0 : 0 < j, dotLt (s.2[j - 1]'(by omega)) s.2[j] = true)
theorem can_iff {s : DSet} (hv : VOk s.1) : Can s ↔ ∀ j (h : j < s.2.length), 0 ≤ j → okAt s j h := by
  constructor
  · intro hs j h _
    exact ⟨hs.rt _ (List.getElem_mem h), hs.gap _ (List.getElem_mem h), fun h0 => srt_get hs.srt (by omega) h (by omega)⟩
  · intro h
    refine ⟨hv, fun d hd => ?_, fun d hd => ?_, ?_⟩
    · obtain ⟨j, hj, rfl⟩ := List.getElem_of_mem hd; exact (h j hj (Nat.zero_le _)).1
    · obtain ⟨j, hj, rfl⟩ := List.getElem_of_mem hd; exact (h j hj (Nat.zero_le _)).2.1
    · have key : ∀ t i (hi : i < s.2.length) (hj : i + 1 + t < s.2.length), dotLt s.2[i] s.2[i + 1 + t] = true := by
        intro t
        induction t with
        | zero => intro i hi hj; exact (h (i + 1) hj (Nat.zero_le _)).2.2 (by omega)
        | succ t ih =>
          intro i hi hj
          have h1 := ih i hi (by omega)
          have h2 := (h (i + 1 + (t + 1)) hj (Nat.zero_le _)).2.2 (by omega)
          exact dotLt_swo.trans _ _ _ h1 h2
      rw [List.pairwise_iff_getElem]
      intro i j hi hj hij
      have := key (j - i - 1) i hi (by omega)
      have e : i + 1 + (j - i - 1) = j := by omega
      simp only [e] at this; exact this
theorem cmp_m1 (a b : Dot) : bnot (ieq (cmpD a b) (-1)) = !dotLt a b := by
  have h1 : ∀ x y : Int, cmpI x y = -1 ∨ cmpI x y = 0 ∨ cmpI x y = 1 := fun x y => by unfold cmpI; split <;> (try split) <;> simp
  have h : cmpD a b = -1 ∨ cmpD a b = 0 ∨ cmpD a b = 1 := by unfold cmpD; split <;> exact h1 _ _
  show bnot (ieq (cmpD a b) (-1)) = !decide (cmpD a b < 0)
  rcases h with h | h | h <;> rw [h] <;> rfl
theorem rr_l (k : Nat) (s : DSet) (hl : s.2.length < 1000000) (hv : VOk s.1) : ∀ (n i : Nat), i ≤ s.2.length → s.2.length < n + i → ∃ b, ref06_Right.l4 k n (i : Int) s = some b ∧ (b = true ↔ ∀ j (h : j < s.2.length), i ≤ j → okAt s j h)
  | 0, i, h, h' => by omega
  | n + 1, i, h, h' => by
    rw [ref06_Right.l4_eq, ilt_nat, inL_nat, natOf_nat]
    by_cases hi : i < s.2.length
    · rw [rd_at' (e := tDot) hi, rright_is, iadd_nat (by omega)]
      simp only [hi, decide_true, br_true, bnd_some]
      cases hr : rightD s.2[i] with
      | false =>
        have e : bnot false = true := rfl
        rw [e]
        exact ⟨false, rfl, ⟨fun h => (by cases h), fun h => by rw [(h i hi (Nat.le_refl _)).1] at hr; cases hr⟩⟩
      | true =>
        have e : bnot true = false := rfl
        obtain ⟨r0, r1, r2, r3⟩ := (rightD_iff s.2[i]).1 hr
        have hvv : rd (.int .i64) s.1 (natOf s.2[i].1) = vat s.1 s.2[i].1 := rfl
        rw [e, inB16 r0 r1, hvv, isub_s (by omega) (by omega) (by omega) (by omega), ile_dec]
        simp only [br_true, br_false]
        by_cases hg : s.2[i].2 - 1 ≤ vat s.1 s.2[i].1
        · simp only [hg, decide_true, br_true]
          exact ⟨false, rfl, ⟨fun h => (by cases h), fun h => by have := (h i hi (Nat.le_refl _)).2.1; omega⟩⟩
        · simp only [hg, decide_false, br_false]
          obtain ⟨b, hb, hbi⟩ := rr_l k s hl hv n (i + 1) (by omega) (by omega)
          have step : (∀ h0 : 0 < i, dotLt (s.2[i - 1]'(by omega)) s.2[i] = true) → (b = true ↔ ∀ j (h : j < s.2.length), i ≤ j → okAt s j h) := fun hlt => hbi.trans ⟨fun h j hj hij => by
            by_cases he : j = i
            · subst he; exact ⟨hr, by omega, hlt⟩
            · exact h j hj (by omega), fun h j hj hij => h j hj (by omega)⟩
          by_cases h0 : 0 < i
          · have e2 : ilt 0 (i : Int) = true := by simp [ilt]; omega
            have e3 : isub .i64 (i : Int) 1 = ((i - 1 : Nat) : Int) := by rw [isub_s (by omega) (by omega) (by omega) (by omega)]; omega
            have hi1 : i - 1 < s.2.length := by omega
            rw [e2, e3, inL_nat, natOf_nat, rd_at' (e := tDot) hi1, rcmp_is]
            simp only [hi1, decide_true, br_true, bnd_some, cmp_m1]
            cases hc : dotLt s.2[i - 1] s.2[i] with
            | true => exact ⟨b, hb, step fun _ => hc⟩
            | false => exact ⟨false, rfl, ⟨fun h => (by cases h), fun h => by have := (h i hi (Nat.le_refl _)).2.2 h0; rw [hc] at this; cases this⟩⟩
          · have e2 : ilt 0 (i : Int) = false := by simp [ilt]; omega
            rw [e2]
            exact ⟨b, hb, step fun h => absurd h h0⟩
    · simp only [hi, decide_false, br_false]
      exact ⟨true, rfl, ⟨fun _ j hj hij => by omega, fun _ => rfl⟩⟩
theorem rr_is (k : Nat) (s : DSet) (hl : s.1.length = 16) (hk : 5000 < k) (hk2 : k < 1000000) : ∃ b, ref06_Right.f k s = some b ∧ (b = true ↔ Can s ∧ s.2.length ≤ 4096) := by
  obtain ⟨b, hb, hbi⟩ := rvr_is k s.1 hl (by omega)
  rw [ref06_Right.f_eq, hb]
  simp only [bnd_some]
  cases b with
  | false => exact ⟨false, rfl, ⟨fun h => (by cases h), fun h => hbi.2 h.1.vok⟩⟩
  | true =>
    have hv := hbi.1 rfl
    have e : bnot true = false := rfl
    have e2 : ilt 4096 (ilen s.2) = decide (4096 < s.2.length) := ilt_nat 4096 s.2
    rw [e, e2]
    simp only [br_false]
    by_cases h : 4096 < s.2.length
    · simp only [h, decide_true, br_true]
      exact ⟨false, rfl, ⟨fun h => (by cases h), fun h => by omega⟩⟩
    · simp only [h, decide_false, br_false]
      obtain ⟨b, hb, hbi⟩ := rr_l k s (by omega) hv k 0 (by omega) (by omega)
      exact ⟨b, hb, hbi.trans ⟨fun h2 => ⟨(can_iff hv).2 h2, by omega⟩, fun h2 => (can_iff hv).1 h2.1⟩⟩
theorem rr_true (k : Nat) {s : DSet} (hs : Can s) (hl : s.2.length ≤ 4096) (hk : 5000 < k) (hk2 : k < 1000000) : ref06_Right.f k s = some true := by
  obtain ⟨b, hb, hbi⟩ := rr_is k s hs.vok.len hk hk2
  rw [hb, hbi.2 ⟨hs, hl⟩]
end Go.Proofs.Ytennedlpmacicaa
end
section
/- Whether a set is right, how many dots there are, and the next one's number. -/
namespace Go.Proofs.Ytennedlpmacicaa
open Pal
theorem dr_l (k : Nat) (s : DSet) (hl : s.2.length < 1000000) (hv : VOk s.1) : ∀ (n i : Nat), i ≤ s.2.length → s.2.length < n + i → ∃ b, dots_Right.l4 (k + 3) n s.2 (ilen s.2) (i : Int) s = some b ∧ (b = true ↔ ∀ j (h : j < s.2.length), i ≤ j → okAt s j h)
  | 0, i, h, h' => by omega
  | n + 1, i, h, h' => by
    rw [dots_Right.l4_eq, ilt_nat, inL_nat, natOf_nat]
    by_cases hi : i < s.2.length
    · rw [rd_at' (e := tDot) hi, right_is, iadd_nat (by omega)]
      simp only [hi, decide_true, br_true, bnd_some]
      cases hr : rightD s.2[i] with
      | false =>
        have e : bnot false = true := rfl
        rw [e]
        exact ⟨false, rfl, ⟨fun h => (by cases h), fun h => by rw [(h i hi (Nat.le_refl _)).1] at hr; cases hr⟩⟩
      | true =>
        have e : bnot true = false := rfl
        obtain ⟨r0, r1, r2, r3⟩ := (rightD_iff s.2[i]).1 hr
        have hvv : rd (.int .i64) s.1 (natOf s.2[i].1) = vat s.1 s.2[i].1 := rfl
        have v0 := hv.lo s.2[i].1 r0 r1
        have v1 := hv.hi s.2[i].1 r0 r1
        rw [e, inB16 r0 r1, hvv, iadd_s (by omega) (by omega) (by omega) (by omega), ile_dec]
        simp only [br_true, br_false]
        by_cases hg : s.2[i].2 ≤ vat s.1 s.2[i].1 + 1
        · simp only [hg, decide_true, br_true]
          exact ⟨false, rfl, ⟨fun h => (by cases h), fun h => by have := (h i hi (Nat.le_refl _)).2.1; omega⟩⟩
        · simp only [hg, decide_false, br_false]
          obtain ⟨b, hb, hbi⟩ := dr_l k s hl hv n (i + 1) (by omega) (by omega)
          have step : (∀ h0 : 0 < i, dotLt (s.2[i - 1]'(by omega)) s.2[i] = true) → (b = true ↔ ∀ j (h : j < s.2.length), i ≤ j → okAt s j h) := fun hlt => hbi.trans ⟨fun h j hj hij => by
            by_cases he : j = i
            · subst he; exact ⟨hr, by omega, hlt⟩
            · exact h j hj (by omega), fun h j hj hij => h j hj (by omega)⟩
          by_cases h0 : 0 < i
          · have e2 : ilt 0 (i : Int) = true := by simp [ilt]; omega
            have e3 : isub .i64 (i : Int) 1 = ((i - 1 : Nat) : Int) := by rw [isub_s (by omega) (by omega) (by omega) (by omega)]; omega
            have hi1 : i - 1 < s.2.length := by omega
            have e4 : ∀ a b : Dot, ile 0 (cmpD a b) = !dotLt a b := fun a b => by
              show decide (0 ≤ cmpD a b) = !decide (cmpD a b < 0)
              by_cases h : cmpD a b < 0
              · rw [decide_eq_true h, decide_eq_false (by omega)]; rfl
              · rw [decide_eq_false h, decide_eq_true (by omega)]; rfl
            rw [e2, e3, inL_nat, natOf_nat, rd_at' (e := tDot) hi1, cmpD_is]
            simp only [hi1, decide_true, br_true, bnd_some, e4]
            cases hc : dotLt s.2[i - 1] s.2[i] with
            | true => exact ⟨b, hb, step fun _ => hc⟩
            | false => exact ⟨false, rfl, ⟨fun h => (by cases h), fun h => by have := (h i hi (Nat.le_refl _)).2.2 h0; rw [hc] at this; cases this⟩⟩
          · have e2 : ilt 0 (i : Int) = false := by simp [ilt]; omega
            rw [e2]
            exact ⟨b, hb, step fun h => absurd h h0⟩
    · simp only [hi, decide_false, br_false]
      exact ⟨true, rfl, ⟨fun _ j hj hij => by omega, fun _ => rfl⟩⟩
theorem dr_is (k : Nat) (s : DSet) (hl : s.1.length = 16) (hk : 5000 < k) (hk2 : k < 1000000) : ∃ b, dots_Right.f k s = some b ∧ (b = true ↔ Can s ∧ s.2.length ≤ 4096) := by
  obtain ⟨b, hb, hbi⟩ := vr_is k s.1 hl (by omega)
  rw [dots_Right.f_eq, hb]
  simp only [bnd_some]
  cases b with
  | false => exact ⟨false, rfl, ⟨fun h => (by cases h), fun h => hbi.2 h.1.vok⟩⟩
  | true =>
    have hv := hbi.1 rfl
    have e : bnot true = false := rfl
    have e2 : ilt 4096 (ilen s.2) = decide (4096 < s.2.length) := ilt_nat 4096 s.2
    rw [e, e2]
    simp only [br_false]
    by_cases h : 4096 < s.2.length
    · simp only [h, decide_true, br_true]
      exact ⟨false, rfl, ⟨fun h => (by cases h), fun h => by omega⟩⟩
    · simp only [h, decide_false, br_false]
      obtain ⟨q, rfl⟩ : ∃ q, k = q + 3 := ⟨k - 3, by omega⟩
      obtain ⟨b, hb, hbi⟩ := dr_l q s (by omega) hv (q + 3) 0 (by omega) (by omega)
      exact ⟨b, hb, hbi.trans ⟨fun h2 => ⟨(can_iff hv).2 h2, by omega⟩, fun h2 => (can_iff hv).1 h2.1⟩⟩
/-! ### The next one's number -/
def lastN (r : Int) (n : Int) (l : List Dot) : Int := l.foldl (fun n d => if d.1 = r then d.2 else n) n
def maxN (r : Int) (n : Int) (l : List Dot) : Int := l.foldl (fun n d => if d.1 = r ∧ n < d.2 then d.2 else n) n
theorem last_max (r : Int) : ∀ (l : List Dot) (n : Int), l.Pairwise (fun a b => dotLt a b = true) → (∀ d ∈ l, d.1 = r → n < d.2) → lastN r n l = maxN r n l
  | [], _, _, _ => rfl
  | d :: l, n, hs, hn => by
    have hs' := List.pairwise_cons.1 hs
    show lastN r (if d.1 = r then d.2 else n) l = maxN r (if d.1 = r ∧ n < d.2 then d.2 else n) l
    by_cases h : d.1 = r
    · have h2 := hn d (by simp) h
      rw [if_pos h, if_pos ⟨h, h2⟩]
      refine last_max r l _ hs'.2 fun e he her => ?_
      have := (dotLt_iff d e).1 (hs'.1 e he)
      omega
    · rw [if_neg h, if_neg (fun hh => h hh.1)]
      exact last_max r l n hs'.2 fun e he her => hn e (List.mem_cons_of_mem _ he) her
theorem next_l (k : Nat) (l : List Dot) (r : Int) (hl : l.length < 1000000) : ∀ (n i : Nat) (x : Int), i ≤ l.length → l.length < n + i → dots_Next.l5 k n r x l (ilen l) (i : Int) = some (iadd .i64 (lastN r x (l.drop i)) 1)
  | 0, i, _, h, h' => by omega
  | n + 1, i, x, h, h' => by
    rw [dots_Next.l5_eq, ilt_nat, inL_nat, natOf_nat]
    by_cases hi : i < l.length
    · rw [rd_at' (e := tDot) hi, iadd_nat (by omega), ieq_dec, List.drop_eq_getElem_cons hi]
      simp only [hi, decide_true, br_true]
      show _ = some (iadd .i64 (lastN r (if l[i].1 = r then l[i].2 else x) (l.drop (i + 1))) 1)
      by_cases he : l[i].1 = r
      · simp only [he, decide_true, br_true, if_true]; exact next_l k l r hl n (i + 1) _ (by omega) (by omega)
      · simp only [he, decide_false, br_false, if_false]; exact next_l k l r hl n (i + 1) _ (by omega) (by omega)
    · rw [List.drop_of_length_le (by omega)]
      simp only [hi, decide_false, br_false]; rfl
theorem rnext_l (k : Nat) (s : DSet) (r : Int) (hl : s.2.length < 1000000) : ∀ (n i : Nat) (x : Int), i ≤ s.2.length → s.2.length < n + i → ref06_Next.l5 k n r x (i : Int) s = some (iadd .i64 (maxN r x (s.2.drop i)) 1)
  | 0, i, _, h, h' => by omega
  | n + 1, i, x, h, h' => by
    rw [ref06_Next.l5_eq, ilt_nat, inL_nat, natOf_nat]
    by_cases hi : i < s.2.length
    · rw [rd_at' (e := tDot) hi, iadd_nat (by omega), ieq_dec, ilt_dec, List.drop_eq_getElem_cons hi]
      simp only [hi, decide_true, br_true]
      show _ = some (iadd .i64 (maxN r (if s.2[i].1 = r ∧ x < s.2[i].2 then s.2[i].2 else x) (s.2.drop (i + 1))) 1)
      by_cases he : s.2[i].1 = r
      · by_cases h2 : x < s.2[i].2
        · simp only [he, h2, decide_true, br_true, and_self, if_true]; exact rnext_l k s r hl n (i + 1) _ (by omega) (by omega)
        · simp only [he, h2, decide_true, decide_false, br_true, br_false, and_false, if_false]; exact rnext_l k s r hl n (i + 1) _ (by omega) (by omega)
      · simp only [he, decide_false, br_false, false_and, if_false]; exact rnext_l k s r hl n (i + 1) _ (by omega) (by omega)
    · rw [List.drop_of_length_le (by omega)]
      simp only [hi, decide_false, br_false]; rfl
theorem next_same (k : Nat) (s : DSet) (r : Int) (hs : Can s) (hl : s.2.length < k) (hk : k < 1000000) : ∃ n, dots_Next.f k s r = some n ∧ ref06_Next.f k s r = some n := by
  rw [dots_Next.f_eq, ref06_Next.f_eq, ilt_dec, ilt_dec, ile_dec]
  by_cases h0 : r < 0
  · simp only [h0, decide_true, br_true]; exact ⟨0, rfl, rfl⟩
  · by_cases h1 : 16 ≤ r
    · have h2 : 15 < r := by omega
      simp only [h0, h1, h2, decide_true, decide_false, br_true, br_false]; exact ⟨0, rfl, rfl⟩
    · have h2 : ¬ 15 < r := by omega
      rw [inB16 (by omega) (by omega)]
      simp only [h0, h1, h2, decide_false, br_true, br_false]
      have e1 := next_l k s.2 r (by omega) k 0 (rd (.int .i64) s.1 (natOf r)) (by omega) (by omega)
      have e2 := rnext_l k s r (by omega) k 0 (rd (.int .i64) s.1 (natOf r)) (by omega) (by omega)
      rw [List.drop_zero] at e1 e2
      rw [last_max r s.2 _ hs.srt (fun d hd hr => by
        have := hs.gap d hd
        rw [hr] at this
        have e : rd (.int .i64) s.1 (natOf r) = vat s.1 r := rfl
        rw [e]; omega)] at e1
      exact ⟨_, e1, e2⟩
/-! ### How many -/
theorem sum_step {v : Vec} {i : Nat} (h : i < v.length) : (v.drop i).sum = v[i] + (v.drop (i + 1)).sum := by rw [List.drop_eq_getElem_cons h, List.sum_cons]
theorem vcount_l (k : Nat) (v : Vec) (hv : VOk v) : ∀ (n i : Nat) (x : Int), i ≤ 16 → 16 < n + i → 0 ≤ x → x ≤ 1048576 * i → vec_Count.l3 k n x v (i : Int) = some (x + (v.drop i).sum) ∧ x + (v.drop i).sum ≤ 1048576 * 16 ∧ 0 ≤ x + (v.drop i).sum
  | 0, i, _, h, h', _, _ => by omega
  | n + 1, i, x, h, h', h0, h1 => by
    rw [vec_Count.l3_eq, natOf_nat]
    have e1 : ilt (i : Int) 16 = decide (i < 16) := ilt_nn i 16
    rw [e1, inB_nat]
    have hlen := hv.len
    by_cases hi : i < 16
    · have hv' : rd (.int .i64) v i = v[i] := rd_at' (e := .int .i64) (by omega)
      have hvat : vat v (i : Int) = v[i] := vat_get (by omega)
      have a := hv.lo i (by omega) (by omega)
      have b := hv.hi i (by omega) (by omega)
      rw [hvat] at a b
      have hmax : imax 0 v[i] = v[i] := by unfold imax; split <;> omega
      rw [hv', hmax, iadd_s (by omega) (by omega) (by omega) (by omega), iadd_nat (by omega), sum_step (by omega : i < v.length)]
      simp only [hi, decide_true, br_true]
      have := vcount_l k v hv n (i + 1) (x + v[i]) (by omega) (by omega) (by omega) (by omega)
      rw [Int.add_assoc] at this
      exact this
    · rw [List.drop_of_length_le (by omega)]
      simp only [hi, decide_false, br_false, List.sum_nil, Int.add_zero]
      exact ⟨trivial, by omega, h0⟩
theorem lcount_l (k : Nat) (s : DSet) (hv : VOk s.1) (c : Int) (c0 : 0 ≤ c) (c1 : c ≤ 1000000) : ∀ (n i : Nat) (x : Int), i ≤ 16 → 16 < n + i → 0 ≤ x → x ≤ c + 1048576 * i → law06_count.l3 k n x (i : Int) s = some (x + (s.1.drop i).sum)
  | 0, i, _, h, h', _, _ => by omega
  | n + 1, i, x, h, h', h0, h1 => by
    rw [law06_count.l3_eq, natOf_nat]
    have e1 : ilt (i : Int) 16 = decide (i < 16) := ilt_nn i 16
    rw [e1, inB_nat]
    have hlen := hv.len
    by_cases hi : i < 16
    · have hv' : rd (.int .i64) s.1 i = s.1[i] := rd_at' (e := .int .i64) (by omega)
      have hvat : vat s.1 (i : Int) = s.1[i] := vat_get (by omega)
      have a := hv.lo i (by omega) (by omega)
      have b := hv.hi i (by omega) (by omega)
      rw [hvat] at a b
      rw [hv', iadd_s (by omega) (by omega) (by omega) (by omega), iadd_nat (by omega), sum_step (by omega : i < s.1.length)]
      simp only [hi, decide_true, br_true]
      rw [lcount_l k s hv c c0 c1 n (i + 1) (x + s.1[i]) (by omega) (by omega) (by omega) (by omega), Int.add_assoc]
    · rw [List.drop_of_length_le (by omega)]
      simp only [hi, decide_false, br_false, List.sum_nil, Int.add_zero]
theorem count_same (k : Nat) (s : DSet) (hs : Can s) (hl : s.2.length ≤ 1000000) (hk : 17 < k) : ∃ n, dots_Count.f k s = some n ∧ law06_count.f k s = some n := by
  obtain ⟨a, b, c⟩ := vcount_l k s.1 hs.vok k 0 0 (by omega) (by omega) (by omega) (by omega)
  have e := lcount_l k s hs.vok (ilen s.2) (by unfold ilen; omega) (by unfold ilen; omega) k 0 (ilen s.2) (by omega) (by omega) (by unfold ilen; omega) (by omega)
  rw [List.drop_zero] at a b c e
  rw [Int.zero_add] at a b c
  refine ⟨ilen s.2 + s.1.sum, ?_, ?_⟩
  · rw [dots_Count.f_eq, vec_Count.f_eq]
    rw [show vec_Count.l3 k k 0 s.1 0 = _ from a]
    simp only [bnd_some]
    rw [iadd_s (by omega) (by omega) (by unfold ilen; omega) (by unfold ilen; omega), Int.add_comm]
  · rw [law06_count.f_eq]; exact e
end Go.Proofs.Ytennedlpmacicaa
end
section
/- Unions, and what is within what. -/
namespace Go.Proofs.Ytennedlpmacicaa
open Pal
def vmax (v u : Vec) : Vec := (List.range 16).map fun (i : Nat) => max (vat v (i : Int)) (vat u (i : Int))
theorem vmax_len (v u : Vec) : (vmax v u).length = 16 := by simp [vmax]
theorem vmax_at (v u : Vec) (r : Int) (h0 : 0 ≤ r) (h1 : r < 16) : vat (vmax v u) r = max (vat v r) (vat u r) := by
  obtain ⟨a, rfl⟩ := Int.eq_ofNat_of_zero_le h0
  rw [vat_get (by rw [vmax_len]; omega)]
  simp [vmax]
theorem vmax_ok {v u : Vec} (hv : VOk v) (hu : VOk u) : VOk (vmax v u) :=
  ⟨vmax_len v u, fun r h0 h1 => by rw [vmax_at v u r h0 h1]; have := hv.lo r h0 h1; omega, fun r h0 h1 => by rw [vmax_at v u r h0 h1]; have := hv.hi r h0 h1; have := hu.hi r h0 h1; omega⟩
/-- Up to i the greater ones, then those of the first. -/
def upTo (v u m : Vec) (i : Nat) : Prop := m.length = 16 ∧ ∀ r : Int, 0 ≤ r → r < 16 → vat m r = if r < (i : Int) then max (vat v r) (vat u r) else vat v r
theorem upTo_end {v u m : Vec} (h : upTo v u m 16) : m = vmax v u := vec_ext h.1 (vmax_len v u) fun r h0 h1 => by rw [h.2 r h0 h1, if_pos (by omega), vmax_at v u r h0 h1]
theorem upTo_step {v u m : Vec} {i : Nat} {x : Int} (h : upTo v u m i) (hi : i < 16) (hx : x = max (vat v (i : Int)) (vat u (i : Int))) : upTo v u (upd m i x) (i + 1) := by
  refine ⟨by simp [upd, h.1], fun r h0 h1 => ?_⟩
  have := vat_upd (v := m) (r := (i : Int)) (x := x) (by omega) (by rw [h.1]; omega) r h0
  rw [natOf_nat] at this
  rw [this]
  by_cases e : r = (i : Int)
  · rw [if_pos e, if_pos (by omega), hx, e]
  · rw [if_neg e, h.2 r h0 h1]
    by_cases e2 : r < (i : Int)
    · rw [if_pos e2, if_pos (by omega)]
    · rw [if_neg e2, if_neg (by omega)]
theorem upTo_skip {v u m : Vec} {i : Nat} (h : upTo v u m i) (hx : vat v (i : Int) = max (vat v (i : Int)) (vat u (i : Int))) : upTo v u m (i + 1) := by
  refine ⟨h.1, fun r h0 h1 => ?_⟩
  rw [h.2 r h0 h1]
  by_cases e : r = (i : Int)
  · subst e; rw [if_neg (by omega), if_pos (by omega)]; exact hx
  · by_cases e2 : r < (i : Int)
    · rw [if_pos e2, if_pos (by omega)]
    · rw [if_neg e2, if_neg (by omega)]
theorem imax_is (a b : Int) : imax a b = max a b := by unfold imax; split <;> omega
theorem both_l (k : Nat) (v u za : Vec) : ∀ (n i : Nat) (m : Vec), i ≤ 16 → 16 < n + i → upTo v u m i → vec_both_119.l2 k n (i : Int) m u za = some (vmax v u)
  | 0, i, _, h, h', _ => by omega
  | n + 1, i, m, h, h', hm => by
    rw [vec_both_119.l2_eq, natOf_nat]
    have e1 : ilt (i : Int) 16 = decide (i < 16) := ilt_nn i 16
    rw [e1, inB_nat]
    by_cases hi : i < 16
    · have h1 : rd (.int .i64) m i = vat m (i : Int) := rfl
      have h2 : rd (.int .i64) u i = vat u (i : Int) := rfl
      have h3 : vat m (i : Int) = vat v (i : Int) := by rw [hm.2 i (by omega) (by omega), if_neg (by omega)]
      rw [h1, h2, h3, vec_Join_1.f_eq, imax_is, iadd_nat (by omega)]
      simp only [hi, decide_true, br_true, bnd_some]
      exact both_l k v u za n (i + 1) _ (by omega) (by omega) (upTo_step hm hi rfl)
    · have : i = 16 := by omega
      subst this
      simp only [Nat.lt_irrefl, decide_false, br_false]
      rw [upTo_end hm]
theorem join_is (k : Nat) (v u : Vec) (hv : v.length = 16) (hk : 17 < k) : vec_Join.f k v u = some (vmax v u) := by
  rw [vec_Join.f_eq, vec_both_119.f_eq]
  have := both_l k v u (zarr 16 0) k 0 v (by omega) (by omega) ⟨hv, fun r h0 _ => by rw [if_neg (by omega)]⟩
  rw [show vec_both_119.l2 k k 0 v u (zarr 16 0) = _ from this]; rfl
theorem rjoin_l (k : Nat) (v u za : Vec) : ∀ (n i : Nat) (m : Vec), i ≤ 16 → 16 < n + i → upTo v u m i → ref05_Join.l3 k n (i : Int) v u za m = some (vmax v u)
  | 0, i, _, h, h', _ => by omega
  | n + 1, i, m, h, h', hm => by
    rw [ref05_Join.l3_eq, natOf_nat]
    have e1 : ilt (i : Int) 16 = decide (i < 16) := ilt_nn i 16
    rw [e1, inB_nat]
    by_cases hi : i < 16
    · have h1 : rd (.int .i64) v i = vat v (i : Int) := rfl
      have h2 : rd (.int .i64) u i = vat u (i : Int) := rfl
      rw [h1, h2, iadd_nat (by omega), ilt_dec]
      simp only [hi, decide_true, br_true]
      by_cases hlt : vat v (i : Int) < vat u (i : Int)
      · simp only [hlt, decide_true, br_true]
        exact rjoin_l k v u za n (i + 1) _ (by omega) (by omega) (upTo_step hm hi (by omega))
      · simp only [hlt, decide_false, br_false]
        exact rjoin_l k v u za n (i + 1) _ (by omega) (by omega) (upTo_skip hm (by omega))
    · have : i = 16 := by omega
      subst this
      simp only [Nat.lt_irrefl, decide_false, br_false]
      rw [upTo_end hm]
theorem rjoin_is (k : Nat) (v u : Vec) (hv : v.length = 16) (hk : 17 < k) : ref05_Join.f k v u = some (vmax v u) := by
  rw [ref05_Join.f_eq]
  exact rjoin_l k v u (zarr 16 0) k 0 v (by omega) (by omega) ⟨hv, fun r h0 _ => by rw [if_neg (by omega)]⟩
/-! ### Unions -/
def unionD (s t : DSet) : DSet := mk (vmax s.1 t.1) (isort dotLt (s.2 ++ t.2))
theorem unionD_can {s t : DSet} (hs : Can s) (ht : Can t) : Can (unionD s t) ∧ (∀ x, Mem (unionD s t) x ↔ Mem s x ∨ Mem t x) ∧ (unionD s t).2.length ≤ s.2.length + t.2.length := by
  have hmem : ∀ d, d ∈ isort dotLt (s.2 ++ t.2) ↔ d ∈ s.2 ∨ d ∈ t.2 := fun d => by rw [(isort_perm dotLt _).mem_iff, List.mem_append]
  obtain ⟨h1, h2, h3, _⟩ := mk_can (vmax_ok hs.vok ht.vok) (isort dotLt (s.2 ++ t.2)) (fun d hd => ((hmem d).1 hd).elim (hs.rt d) (ht.rt d)) (isort_sorted dotLt_swo _)
  refine ⟨h1, fun x => ?_, ?_⟩
  · rw [show Mem (unionD s t) x ↔ _ from h2 x, hmem]
    constructor
    · rintro ⟨a, b | b | b⟩
      · obtain ⟨q0, q1, _, _⟩ := (rightD_iff x).1 a
        rw [vmax_at _ _ x.1 q0 q1] at b
        rcases (by omega : x.2 ≤ vat s.1 x.1 ∨ x.2 ≤ vat t.1 x.1) with h | h
        · exact .inl ⟨a, .inl h⟩
        · exact .inr ⟨a, .inl h⟩
      · exact .inl ⟨a, .inr b⟩
      · exact .inr ⟨a, .inr b⟩
    · rintro (⟨a, b⟩ | ⟨a, b⟩)
      · obtain ⟨q0, q1, _, _⟩ := (rightD_iff x).1 a
        refine ⟨a, b.imp (fun h => ?_) .inl⟩
        rw [vmax_at _ _ x.1 q0 q1]; omega
      · obtain ⟨q0, q1, _, _⟩ := (rightD_iff x).1 a
        refine ⟨a, b.imp (fun h => ?_) .inr⟩
        rw [vmax_at _ _ x.1 q0 q1]; omega
  · refine Nat.le_trans h3 ?_
    rw [(isort_perm dotLt _).length_eq, List.length_append]; exact Nat.le_refl _
theorem concat_is (k : Nat) (a b : List Dot) (ha : a.length ≤ 1000000) (hb : b.length ≤ 1000000) (hk : 3 ≤ k) : slices_Concat_api_Dot_api_Dot.f k (a :: (b :: [])) = some (a ++ b) := by
  obtain ⟨q, rfl⟩ : ∃ q, k = q + 1 + 1 + 1 := ⟨k - 3, by omega⟩
  rw [slices_Concat_api_Dot_api_Dot.f_eq, slices_Concat_api_Dot_api_Dot.l3_eq, slices_Concat_api_Dot_api_Dot.l3_eq, slices_Concat_api_Dot_api_Dot.l3_eq]
  rw [slices_Concat_api_Dot_api_Dot.l11_eq, slices_Concat_api_Dot_api_Dot.l11_eq, slices_Concat_api_Dot_api_Dot.l11_eq]
  have i1 : iadd .i64 0 1 = 1 := rfl
  have i2 : iadd .i64 1 1 = 2 := rfl
  have l2 : ilen (a :: (b :: [])) = 2 := rfl
  have r0 : rd (.slc tDot) (a :: (b :: [])) (natOf 0) = a := rfl
  have r1 : rd (.slc tDot) (a :: (b :: [])) (natOf 1) = b := rfl
  have n0 : inL 0 (a :: (b :: [])) = true := rfl
  have n1 : inL 1 (a :: (b :: [])) = true := rfl
  have t0 : ilt 0 2 = true := rfl
  have t1 : ilt 1 2 = true := rfl
  have t2 : ilt 2 2 = false := rfl
  have s0 : iadd .i64 0 (ilen a) = ilen a := by rw [iadd_s (by omega) (by omega) (by unfold ilen; omega) (by unfold ilen; omega), Int.zero_add]
  have s1 : iadd .i64 (ilen a) (ilen b) = ilen a + ilen b := iadd_s (by unfold ilen; omega) (by unfold ilen; omega) (by unfold ilen; omega) (by unfold ilen; omega)
  have g0 : ilt (ilen a) 0 = false := decide_eq_false (by unfold ilen; omega)
  have g1 : ilt (ilen a + ilen b) 0 = false := decide_eq_false (by unfold ilen; omega)
  have g2 : ilt 4294967296 (ilen a + ilen b) = false := decide_eq_false (by unfold ilen; omega)
  have m0 : room ([] : List Int) ([] : List Int) = true := rfl
  have m1 : room ([] : List Dot) a = true := decide_eq_true (by show 0 + a.length ≤ 4294967296; omega)
  have m2 : room (app ([] : List Dot) a) b = true := decide_eq_true (by show a.length + b.length ≤ 4294967296; omega)
  rw [i1, l2, i2, r0, r1, n0, n1, t0, t1, t2, s0, s1, g0, g1, g2, m0, m1, m2]
  simp only [br_true, br_false, app, List.nil_append]
theorem union_is (k : Nat) (s t : DSet) (hs : Can s) (ht : Can t) (hl : s.2.length + t.2.length < k) (h17 : 17 < k) (hk : k < 1000000) : dots_Union.f k s t = some (unionD s t) := by
  have hmem : ∀ d, d ∈ isort dotLt (s.2 ++ t.2) ↔ d ∈ s.2 ∨ d ∈ t.2 := fun d => by rw [(isort_perm dotLt _).mem_iff, List.mem_append]
  rw [dots_Union.f_eq, concat_is k _ _ (by omega) (by omega) (by omega)]
  simp only [bnd_some]
  have e : room ([] : List Int) (s.2 ++ t.2) = true := by simp [room]; omega
  rw [e, join_is k _ _ hs.vok.len h17]
  simp only [br_true, bnd_some]
  rw [made_is k _ (by rw [(isort_perm dotLt _).length_eq, List.length_append]; exact hl) hk (fun d hd => ((hmem d).1 hd).elim (hs.rt d) (ht.rt d)) (isort_sorted dotLt_swo _) _ (vmax_ok hs.vok ht.vok)]
  rfl
theorem puts_can : ∀ (l : List Dot) (s : DSet), Can s → (∀ d ∈ l, rightD d = true) → Can (l.foldl putD s) ∧ (∀ x, Mem (l.foldl putD s) x ↔ Mem s x ∨ x ∈ l) ∧ (l.foldl putD s).2.length ≤ s.2.length + l.length
  | [], s, hs, _ => ⟨hs, fun x => by simp, Nat.le_refl _⟩
  | d :: l, s, hs, hr => by
    obtain ⟨a, b, c⟩ := putD_can hs d
    obtain ⟨p, q, r⟩ := puts_can l (putD s d) a (fun e he => hr e (List.mem_cons_of_mem _ he))
    refine ⟨p, fun x => ?_, by simp only [List.length_cons]; show ((d :: l).foldl putD s).2.length ≤ _; simp only [List.foldl_cons]; omega⟩
    show Mem (l.foldl putD (putD s d)) x ↔ _
    rw [q, b, List.mem_cons]
    have hd := hr d (by simp)
    constructor
    · rintro ((h | ⟨_, h⟩) | h)
      · exact .inl h
      · exact .inr (.inl h)
      · exact .inr (.inr h)
    · rintro (h | h | h)
      · exact .inl (.inl h)
      · exact .inl (.inr ⟨hd, h⟩)
      · exact .inr h
theorem runion_l (k : Nat) (t : DSet) (hk : k < 1000000) (htl : t.2.length < 1000000) (hr : ∀ d ∈ t.2, rightD d = true) (za : Vec) (zb : List Dot) : ∀ (n i : Nat) (s : DSet), Can s → i ≤ t.2.length → t.2.length < n + i → s.2.length + (t.2.length - i) < k → ref06_Union.l3 k n (i : Int) t za zb s = some ((t.2.drop i).foldl putD s)
  | 0, i, _, _, h, h', _ => by omega
  | n + 1, i, s, hs, h, h', hl => by
    rw [ref06_Union.l3_eq, ilt_nat, inL_nat, natOf_nat]
    by_cases hi : i < t.2.length
    · rw [rd_at' (e := tDot) hi, iadd_nat (by omega), rput_is k s t.2[i] (by omega) hk hs, List.drop_eq_getElem_cons hi]
      simp only [hi, decide_true, br_true, bnd_some, List.foldl_cons]
      obtain ⟨a, _, c⟩ := putD_can hs t.2[i]
      exact runion_l k t hk htl hr za zb n (i + 1) _ a (by omega) (by omega) (by omega)
    · rw [List.drop_of_length_le (by omega)]
      simp only [hi, decide_false, br_false, List.foldl_nil]
theorem runion_is (k : Nat) (s t : DSet) (hs : Can s) (ht : Can t) (hl : s.2.length + t.2.length < k) (h17 : 17 < k) (hk : k < 1000000) : ref06_Union.f k s t = some (unionD s t) := by
  obtain ⟨h1, h2, h3, _⟩ := mk_can (vmax_ok hs.vok ht.vok) s.2 hs.rt (hs.srt.imp dotLt_asym)
  obtain ⟨p, q, _⟩ := puts_can t.2 _ h1 ht.rt
  obtain ⟨u1, u2, _⟩ := unionD_can hs ht
  rw [ref06_Union.f_eq, rjoin_is k _ _ hs.vok.len h17]
  simp only [bnd_some]
  rw [filled_is k (vmax s.1 t.1, s.2) (by show s.2.length < k; omega) hk hs.rt hs.srt (vmax_ok hs.vok ht.vok)]
  simp only [bnd_some]
  have := runion_l k t hk (by omega) ht.rt (zarr 16 0) [] k 0 _ h1 (by omega) (by omega) (by omega)
  rw [List.drop_zero] at this
  rw [show ref06_Union.l3 k k 0 t (zarr 16 0) [] (mk (vmax s.1 t.1) s.2) = _ from this]
  congr 1
  refine can_unique p u1 fun x => ?_
  rw [q, h2, u2]
  constructor
  · rintro (⟨a, b | b⟩ | b)
    · obtain ⟨q0, q1, _, _⟩ := (rightD_iff x).1 a
      rw [vmax_at _ _ x.1 q0 q1] at b
      rcases (by omega : x.2 ≤ vat s.1 x.1 ∨ x.2 ≤ vat t.1 x.1) with h | h
      · exact .inl ⟨a, .inl h⟩
      · exact .inr ⟨a, .inl h⟩
    · exact .inl ⟨a, .inr b⟩
    · exact .inr ⟨ht.rt x b, .inr b⟩
  · rintro (⟨a, b⟩ | ⟨a, b⟩)
    · obtain ⟨q0, q1, _, _⟩ := (rightD_iff x).1 a
      refine .inl ⟨a, b.imp (fun h => ?_) id⟩
      rw [vmax_at _ _ x.1 q0 q1]; omega
    · obtain ⟨q0, q1, _, _⟩ := (rightD_iff x).1 a
      rcases b with h | h
      · refine .inl ⟨a, .inl ?_⟩
        rw [vmax_at _ _ x.1 q0 q1]; omega
      · exact .inr h
/-! ### Within -/
theorem within_is (k : Nat) (s t : DSet) (hs : Can s) (ht : Can t) (hl : s.2.length + t.2.length < k) (h17 : 17 < k) (hk : k < 1000000) : dots_Within.f k s t = some (decide (unionD s t = t)) := by
  obtain ⟨_, _, u3⟩ := unionD_can hs ht
  rw [dots_Within.f_eq, union_is k s t hs ht hl h17 hk]
  simp only [bnd_some]
  rw [same_is k _ _ (by omega) hk]; rfl
theorem union_eq {s t : DSet} (hs : Can s) (ht : Can t) : unionD s t = t ↔ ∀ x, Mem s x → Mem t x := by
  obtain ⟨u1, u2, _⟩ := unionD_can hs ht
  constructor
  · intro h x hx; rw [← h]; exact (u2 x).2 (.inl hx)
  · intro h; exact can_unique u1 ht fun x => by rw [u2]; exact ⟨fun hh => hh.elim (h x) id, .inr⟩
theorem rw_l11 (k n7 : Nat) (s t : DSet) (ht : Can t) (hl : t.2.length < 1000000) (r : Nat) (hr : r < 16) : ∀ (n i : Nat), i ≤ t.2.length → t.2.length < n + i →
    ref06_Within.l11 k n7 n (r : Int) (vat t.1 (r : Int)) (i : Int) s t = br (ilt (vat t.1 (r : Int)) (vat s.1 (r : Int))) (some false) (ref06_Within.l7 k n7 ((r + 1 : Nat) : Int) s t)
  | 0, i, h, h' => by omega
  | n + 1, i, h, h' => by
    rw [ref06_Within.l11_eq, ilt_nat, inL_nat]
    by_cases hi : i < t.2.length
    · have v0 := ht.vok.lo r (by omega) (by omega)
      have v1 := ht.vok.hi r (by omega) (by omega)
      have ih := rw_l11 k n7 s t ht hl r hr n (i + 1) (by omega) (by omega)
      have e1 : iadd .i64 (i : Int) 1 = ((i + 1 : Nat) : Int) := iadd_nat (by omega)
      rw [natOf_nat, rd_at' (e := tDot) hi, e1, iadd_s (by omega) (by omega) (by omega) (by omega), ieq_dec, ieq_dec]
      simp only [hi, decide_true, br_true]
      by_cases he : t.2[i].1 = (r : Int)
      · have hg := ht.gap _ (List.getElem_mem hi)
        rw [he] at hg
        have hne : ¬ t.2[i].2 = vat t.1 (r : Int) + 1 := by omega
        simp only [he, hne, decide_true, decide_false, br_true, br_false]
        exact ih
      · simp only [he, decide_false, br_false]
        exact ih
    · simp only [hi, decide_false, br_false]
      have e1 : inB (r : Int) 16 = true := inB16 (by omega) (by omega)
      rw [e1, iadd_nat (by omega)]
      rfl
theorem rw_l7 (k : Nat) (s t : DSet) (ht : Can t) (hl : t.2.length < k) (hk : k < 1000000) : ∀ (n r : Nat), r ≤ 16 → 16 < n + r → ∃ c, ref06_Within.l7 k n (r : Int) s t = some c ∧ (c = true ↔ ∀ q : Int, (r : Int) ≤ q → q < 16 → vat s.1 q ≤ vat t.1 q)
  | 0, r, h, h' => by omega
  | n + 1, r, h, h' => by
    rw [ref06_Within.l7_eq]
    have e1 : ilt (r : Int) 16 = decide (r < 16) := ilt_nn r 16
    rw [e1, inB_nat]
    by_cases hr : r < 16
    · simp only [hr, decide_true, br_true]
      have e := rw_l11 k n s t ht (by omega) r hr k 0 (by omega) (by omega)
      rw [show ref06_Within.l11 k n k (r : Int) (rd (.int .i64) t.1 (natOf (r : Int))) 0 s t = _ from e, ilt_dec]
      obtain ⟨c, hc, hci⟩ := rw_l7 k s t ht hl hk n (r + 1) (by omega) (by omega)
      by_cases hlt : vat t.1 (r : Int) < vat s.1 (r : Int)
      · simp only [hlt, decide_true, br_true]
        exact ⟨false, rfl, ⟨fun h => (by cases h), fun h => by have := h r (Int.le_refl _) (by omega); omega⟩⟩
      · simp only [hlt, decide_false, br_false]
        refine ⟨c, hc, hci.trans ⟨fun h q h1 h2 => ?_, fun h q h1 h2 => h q (by omega) h2⟩⟩
        by_cases e : q = (r : Int)
        · subst e; omega
        · exact h q (by omega) h2
    · simp only [hr, decide_false, br_false]
      exact ⟨true, rfl, ⟨fun _ q h1 h2 => by omega, fun _ => rfl⟩⟩
theorem rw_l2 (k : Nat) (s t : DSet) (hs : Can s) (ht : Can t) (hl : t.2.length < k) (hl2 : s.2.length < k) (hk : k < 1000000) (h17 : 17 < k) : ∀ (n i : Nat), i ≤ s.2.length → s.2.length < n + i → ∃ c, ref06_Within.l2 k n (i : Int) s t = some c ∧ (c = true ↔ (∀ d ∈ s.2.drop i, Mem t d) ∧ ∀ q : Int, 0 ≤ q → q < 16 → vat s.1 q ≤ vat t.1 q)
  | 0, i, h, h' => by omega
  | n + 1, i, h, h' => by
    rw [ref06_Within.l2_eq, ilt_nat, inL_nat, natOf_nat]
    by_cases hi : i < s.2.length
    · rw [rd_at' (e := tDot) hi, iadd_nat (by omega), rhas_is k t _ hl hk ht.rt, List.drop_eq_getElem_cons hi]
      simp only [hi, decide_true, br_true, bnd_some]
      obtain ⟨c, hc, hci⟩ := rw_l2 k s t hs ht hl hl2 hk h17 n (i + 1) (by omega) (by omega)
      cases hm : memB t s.2[i] with
      | false =>
        have e : bnot false = true := rfl
        rw [e]
        exact ⟨false, rfl, ⟨fun h => (by cases h), fun h => by have := (memB_iff _ _).2 (h.1 _ (List.mem_cons_self ..)); rw [hm] at this; cases this⟩⟩
      | true =>
        have e : bnot true = false := rfl
        rw [e]
        refine ⟨c, hc, hci.trans ⟨fun h => ⟨fun d hd => ?_, h.2⟩, fun h => ⟨fun d hd => h.1 d (List.mem_cons_of_mem _ hd), h.2⟩⟩⟩
        rcases List.mem_cons.1 hd with rfl | hd
        · exact (memB_iff _ _).1 hm
        · exact h.1 d hd
    · rw [List.drop_of_length_le (by omega)]
      simp only [hi, decide_false, br_false]
      obtain ⟨c, hc, hci⟩ := rw_l7 k s t ht hl hk k 0 (by omega) (by omega)
      exact ⟨c, hc, hci.trans ⟨fun h => ⟨fun d hd => by simp at hd, h⟩, fun h => h.2⟩⟩
theorem rwithin_is (k : Nat) (s t : DSet) (hs : Can s) (ht : Can t) (hl : t.2.length < k) (hl2 : s.2.length < k) (hk : k < 1000000) (h17 : 17 < k) : ref06_Within.f k s t = some (decide (unionD s t = t)) := by
  rw [ref06_Within.f_eq]
  obtain ⟨c, hc, hci⟩ := rw_l2 k s t hs ht hl hl2 hk h17 k 0 (by omega) (by omega)
  rw [show ref06_Within.l2 k k 0 s t = _ from hc]
  congr 1
  rw [Bool.eq_iff_iff, hci, decide_eq_true_iff, union_eq hs ht, List.drop_zero]
  constructor
  · rintro ⟨h1, h2⟩ x ⟨a, b | b⟩
    · obtain ⟨q0, q1, _, _⟩ := (rightD_iff x).1 a
      exact ⟨a, .inl (Int.le_trans b (h2 x.1 q0 q1))⟩
    · exact h1 x b
  · intro h
    exact ⟨fun d hd => h d ⟨hs.rt d hd, .inr hd⟩, fun q h0 h1 => can_le hs ht h q h0 h1⟩
/-- Good ones. -/
theorem good_is (k : Nat) (s : DSet) (hl : s.1.length = 16) (hk : 5000 < k) (hk2 : k < 1000000) : ∃ b, ref06_Good.f k s = some b ∧ (b = true → Can s ∧ s.2.length ≤ 100) := by
  rw [ref06_Good.f_eq]
  have e : ile (ilen s.2) 100 = decide (s.2.length ≤ 100) := by unfold ile ilen; congr 1; exact propext ⟨fun h => by omega, fun h => by omega⟩
  rw [e]
  by_cases h : s.2.length ≤ 100
  · obtain ⟨b, hb, hbi⟩ := rr_is k s hl hk hk2
    simp only [h, decide_true, br_true, hb, bnd_some]
    exact ⟨b, rfl, fun hh => ⟨(hbi.1 hh).1, trivial⟩⟩
  · simp only [h, decide_false, br_false]
    exact ⟨false, rfl, fun h => by cases h⟩
end Go.Proofs.Ytennedlpmacicaa
end
section
/- Readers: the program's and the document's read the same. -/
namespace Go.Proofs.Ytennedlpmacicaa
open Pal
abbrev Rdr := List UInt8 × Int
abbrev RefRdr := List UInt8 × (Int × Int)
/-- Two readers of one text stand at the same place. -/
structure RR (S : List UInt8) (r : Rdr) (x : RefRdr) : Prop where
  src : x.1 = S
  lo : 0 ≤ x.2.1
  hi : x.2.1 ≤ (S.length : Int)
  bad : r.2 = x.2.2
  rest : x.2.2 = 0 → r.1 = S.drop x.2.1.toNat
theorem fine_is (k : Nat) (o : Rdr) : pack_Reader_fine.f k o = some (decide (o.2 = 0), o) := by rw [pack_Reader_fine.f_eq, ieq_dec]
theorem fail_is (k : Nat) (e : Int) (o : Rdr) : pack_Reader_Fail.f k e o = some ((), if o.2 = 0 then (o.1, e) else o) := by
  rw [pack_Reader_Fail.f_eq, fine_is]
  simp only [bnd_some, br_dec]
  split <;> rfl
theorem byte_lt (b : UInt8) : b.toNat < 256 := b.toNat_lt
theorem byteAt_drop (S : List UInt8) (a i : Nat) : byteAt (S.drop a) (i : Int) = byteAt S ((a + i : Nat) : Int) := by
  unfold byteAt
  rw [Int.toNat_natCast, Int.toNat_natCast]
  simp [List.getD]
theorem byteAt_rng (S : List UInt8) (i : Int) : 0 ≤ byteAt S i ∧ byteAt S i < 256 := by
  unfold byteAt
  have := byte_lt (S.getD i.toNat 0); omega
theorem wrap64 {n : Int} (h1 : -9000000000000000000 ≤ n) (h2 : n ≤ 9000000000000000000) : IntKind.wrap .i64 n = n := by
  have e1 : ((2 : Int) ^ 63) = 9223372036854775808 := by decide
  exact wrap_i64 (by rw [e1]; omega) (by rw [e1]; omega)
theorem iand127 {c : Nat} (h : c < 9000000000000000000) : iand .i64 (c : Int) 127 = ((c % 128 : Nat) : Int) := by
  show IntKind.wrap .i64 (((BitVec.ofInt 64 (c : Int) &&& BitVec.ofInt 64 127).toNat : Nat) : Int) = _
  have e : (BitVec.ofInt 64 (c : Int) &&& BitVec.ofInt 64 127).toNat = c % 128 := by
    have e1 : BitVec.ofInt 64 (c : Int) = BitVec.ofNat 64 c := by simp
    have e2 : BitVec.ofInt 64 127 = BitVec.ofNat 64 127 := by decide
    rw [e1, e2, BitVec.toNat_and, BitVec.toNat_ofNat, BitVec.toNat_ofNat, Nat.mod_eq_of_lt (show c < 2 ^ 64 by omega), show 127 % 2 ^ 64 = 2 ^ 7 - 1 by decide, Nat.and_two_pow_sub_one_eq_mod]
  rw [e, wrap64 (by omega) (by omega)]
theorem ior_add {a b m : Nat} (ha : a < 2 ^ m) (hb : 2 ^ m * b + a < 9000000000000000000) : ior .i64 (a : Int) ((2 ^ m * b : Nat) : Int) = ((2 ^ m * b + a : Nat) : Int) := by
  show IntKind.wrap .i64 (((BitVec.ofInt 64 (a : Int) ||| BitVec.ofInt 64 ((2 ^ m * b : Nat) : Int)).toNat : Nat) : Int) = _
  have e : (BitVec.ofInt 64 (a : Int) ||| BitVec.ofInt 64 ((2 ^ m * b : Nat) : Int)).toNat = 2 ^ m * b + a := by
    have e1 : ∀ c : Nat, BitVec.ofInt 64 (c : Int) = BitVec.ofNat 64 c := fun c => by simp
    rw [e1, e1, BitVec.toNat_or, BitVec.toNat_ofNat, BitVec.toNat_ofNat, Nat.mod_eq_of_lt (show a < 2 ^ 64 by omega), Nat.mod_eq_of_lt (show 2 ^ m * b < 2 ^ 64 by omega), Nat.or_comm, Nat.two_pow_add_eq_or_of_lt ha]
  rw [e, wrap64 (by omega) (by omega)]
theorem pow_mono {i : Nat} (h : i ≤ 8) : 2 ^ (7 * i) ≤ 72057594037927936 := by
  have : 2 ^ (7 * i) ≤ 2 ^ 56 := Nat.pow_le_pow_right (by decide) (by omega)
  exact this
theorem pow_mono7 {i : Nat} (h : i < 8) : 2 ^ (7 * i) ≤ 562949953421312 := by
  have : 2 ^ (7 * i) ≤ 2 ^ 49 := Nat.pow_le_pow_right (by decide) (by omega)
  exact this
/-- The program's step in the number. -/
theorem num_step {i c n : Nat} (hi : i < 8) (hc : c < 256) (hn : n < 2 ^ (7 * i)) :
    ior .i64 (n : Int) (ishl .i64 (iand .i64 (c : Int) 127) (imul .i64 7 (i : Int))) = ((2 ^ (7 * i) * (c % 128) + n : Nat) : Int) ∧ 2 ^ (7 * i) * (c % 128) + n < 2 ^ (7 * (i + 1)) := by
  have hp := pow_mono7 hi
  have hp1 := pow_mono (show i + 1 ≤ 8 by omega)
  have e7 : 2 ^ (7 * (i + 1)) = 2 ^ (7 * i) * 128 := by rw [show 7 * (i + 1) = 7 * i + 7 by omega, Nat.pow_add]
  have hm : c % 128 ≤ 127 := by omega
  have hmul : 2 ^ (7 * i) * (c % 128) ≤ 2 ^ (7 * i) * 127 := Nat.mul_le_mul_left _ hm
  have hlt : 2 ^ (7 * i) * (c % 128) + n < 2 ^ (7 * (i + 1)) := by rw [e7]; omega
  refine ⟨?_, hlt⟩
  have e1 : imul .i64 7 (i : Int) = ((7 * i : Nat) : Int) := by
    show IntKind.wrap .i64 (7 * (i : Int)) = _
    rw [wrap64 (by omega) (by omega)]; omega
  have e2 : ishl .i64 ((c % 128 : Nat) : Int) ((7 * i : Nat) : Int) = ((2 ^ (7 * i) * (c % 128) : Nat) : Int) := by
    show IntKind.wrap .i64 (((c % 128 : Nat) : Int) * 2 ^ (min ((7 * i : Nat) : Int).toNat 64)) = _
    have : min ((7 * i : Nat) : Int).toNat 64 = 7 * i := by omega
    rw [this]
    have e3 : ((c % 128 : Nat) : Int) * 2 ^ (7 * i) = ((2 ^ (7 * i) * (c % 128) : Nat) : Int) := by
      rw [Int.natCast_mul, Int.natCast_pow, Int.mul_comm]; rfl
    rw [e3, wrap64 (by omega) (by omega)]
  rw [iand127 (by omega), e1, e2, ior_add hn (by omega)]
/-- The document's step. -/
theorem ref_step {i c n : Nat} (hi : i < 8) (hc : c < 256) (hn : n < 2 ^ (7 * i)) (hc2 : 128 ≤ c) :
    iadd .i64 (n : Int) (imul .i64 (isub .i64 (c : Int) 128) ((2 ^ (7 * i) : Nat) : Int)) = ((2 ^ (7 * i) * (c % 128) + n : Nat) : Int) := by
  have hp := pow_mono7 hi
  have e1 : isub .i64 (c : Int) 128 = ((c % 128 : Nat) : Int) := by
    show IntKind.wrap .i64 ((c : Int) - 128) = _
    rw [wrap64 (by omega) (by omega)]; omega
  have hmul : (c % 128) * 2 ^ (7 * i) ≤ 127 * 2 ^ (7 * i) := Nat.mul_le_mul_right _ (by omega)
  have e2 : imul .i64 ((c % 128 : Nat) : Int) ((2 ^ (7 * i) : Nat) : Int) = (((c % 128) * 2 ^ (7 * i) : Nat) : Int) := by
    show IntKind.wrap .i64 (((c % 128 : Nat) : Int) * ((2 ^ (7 * i) : Nat) : Int)) = _
    rw [← Int.natCast_mul, wrap64 (by omega) (by omega)]
  rw [e1, e2]
  show IntKind.wrap .i64 ((n : Int) + (((c % 128) * 2 ^ (7 * i) : Nat) : Int)) = _
  rw [wrap64 (by omega) (by omega), Nat.mul_comm]; omega
theorem ref_last {i c n : Nat} (hi : i < 8) (hn : n < 2 ^ (7 * i)) (hc2 : c < 128) :
    iadd .i64 (n : Int) (imul .i64 (c : Int) ((2 ^ (7 * i) : Nat) : Int)) = ((2 ^ (7 * i) * (c % 128) + n : Nat) : Int) := by
  have hp := pow_mono7 hi
  have hmul : c * 2 ^ (7 * i) ≤ 127 * 2 ^ (7 * i) := Nat.mul_le_mul_right _ (by omega)
  have e2 : imul .i64 (c : Int) ((2 ^ (7 * i) : Nat) : Int) = ((c * 2 ^ (7 * i) : Nat) : Int) := by
    show IntKind.wrap .i64 ((c : Int) * ((2 ^ (7 * i) : Nat) : Int)) = _
    rw [← Int.natCast_mul, wrap64 (by omega) (by omega)]
  rw [e2, Nat.mod_eq_of_lt (show c < 128 by omega)]
  show IntKind.wrap .i64 ((n : Int) + ((c * 2 ^ (7 * i) : Nat) : Int)) = _
  rw [wrap64 (by omega) (by omega), Nat.mul_comm]; omega
theorem unit_step {i : Nat} (hi : i < 8) : imul .i64 ((2 ^ (7 * i) : Nat) : Int) 128 = ((2 ^ (7 * (i + 1)) : Nat) : Int) := by
  have hp := pow_mono7 hi
  have e7 : 2 ^ (7 * (i + 1)) = 2 ^ (7 * i) * 128 := by rw [show 7 * (i + 1) = 7 * i + 7 by omega, Nat.pow_add]
  show IntKind.wrap .i64 (((2 ^ (7 * i) : Nat) : Int) * 128) = _
  rw [wrap64 (by omega) (by omega), e7]; omega
theorem rr_bad {S s : List UInt8} {a : Nat} {e : Int} (h : a ≤ S.length) (he : e ≠ 0) : RR S (s, e) (S, ((a : Int), e)) :=
  ⟨rfl, by show (0 : Int) ≤ (a : Int); omega, by show (a : Int) ≤ (S.length : Int); omega, rfl, fun hh => absurd hh he⟩
/-- One number is read. -/
def IntOK (S : List UInt8) (p : Option (Int × Rdr)) (q : Option (Int × RefRdr)) : Prop :=
  ∃ n r x, p = some (n, r) ∧ q = some (n, x) ∧ RR S r x ∧ 0 ≤ n ∧ n < 72057594037927936 ∧ (x.2.2 ≠ 0 → n = 0)
theorem int_bad (k m : Nat) (a b : Int) (s : List UInt8) (e : Int) (he : e ≠ 0) : pack_Reader_Int.l3 k (m + 1) a b (s, e) = some (0, (s, e)) := by
  rw [pack_Reader_Int.l3_eq, fine_is]
  simp only [bnd_some, he, decide_false, br_false]
theorem int_fin {S : List UInt8} {a i : Nat} (hl : a + i < S.length) (hS : S.length < 4000000) {v : Int} (h0 : 0 ≤ v) (h1 : v < 72057594037927936) :
    IntOK S (br (inS ((i + 1 : Nat) : Int) (ilen (S.drop a)) (ilen (S.drop a))) (some (v, ((piece (S.drop a) ((i + 1 : Nat) : Int) (ilen (S.drop a))), (0 : Int)))) none) (some (v, (S, ((iadd .i64 ((a + i : Nat) : Int) 1), (0 : Int))))) := by
  have hin : inS ((i + 1 : Nat) : Int) (ilen (S.drop a)) (ilen (S.drop a)) = true := by
    have q1 : ((i + 1 : Nat) : Int) ≤ ((S.drop a).length : Int) := by rw [List.length_drop]; omega
    show (decide ((0 : Int) ≤ ((i + 1 : Nat) : Int)) && decide (((i + 1 : Nat) : Int) ≤ ((S.drop a).length : Int)) && decide (((S.drop a).length : Int) ≤ ((S.drop a).length : Int))) = true
    rw [decide_eq_true q1, decide_eq_true (show (0 : Int) ≤ ((i + 1 : Nat) : Int) by omega), decide_eq_true (Int.le_refl _)]; rfl
  rw [hin, iadd_nat (by omega)]
  refine ⟨_, _, _, rfl, rfl, ⟨rfl, by show (0 : Int) ≤ ((a + i + 1 : Nat) : Int); omega, by show ((a + i + 1 : Nat) : Int) ≤ (S.length : Int); omega, rfl, fun _ => ?_⟩, h0, h1, fun h => absurd rfl h⟩
  show piece (S.drop a) ((i + 1 : Nat) : Int) (ilen (S.drop a)) = S.drop ((a + i + 1 : Nat) : Int).toNat
  unfold piece ilen
  rw [Int.toNat_natCast, Int.toNat_natCast, Int.toNat_natCast, List.take_length, List.drop_drop]
  congr 1
theorem int_end (k : Nat) (S : List UInt8) (a : Nat) (ha : a ≤ S.length) (n u : Int) (m1 m2 : Nat) :
    IntOK S (pack_Reader_Int.l3 k (m1 + 2) n ((8 : Nat) : Int) (S.drop a, 0)) (ref02_Reader_Int.l5 k (m2 + 1) n u ((8 : Nat) : Int) (S, ((a : Int), 0))) := by
    rw [pack_Reader_Int.l3_eq, ref02_Reader_Int.l5_eq, fine_is]
    have e1 : ieq ((8 : Nat) : Int) 8 = true := rfl
    have e2 : ilt ((8 : Nat) : Int) 8 = false := rfl
    simp only [bnd_some, decide_true, br_true, e1, e2, br_false, fail_is, if_true]
    rw [int_bad k m1 _ _ _ 6 (by decide)]
    exact ⟨0, _, _, rfl, rfl, rr_bad ha (by decide), by decide, by decide, fun _ => rfl⟩
theorem int_step (k : Nat) (S : List UInt8) (a : Nat) (ha : a ≤ S.length) (hS : S.length < 4000000) (i n m1 m2 : Nat) (hi8 : i < 8) (hn : n < 2 ^ (7 * i))
    (ih : ∀ v : Nat, v < 2 ^ (7 * (i + 1)) → IntOK S (pack_Reader_Int.l3 k (m1 + 1) (v : Int) ((i + 1 : Nat) : Int) (S.drop a, 0)) (ref02_Reader_Int.l5 k m2 (v : Int) ((2 ^ (7 * (i + 1)) : Nat) : Int) ((i + 1 : Nat) : Int) (S, ((a : Int), 0)))) :
    IntOK S (pack_Reader_Int.l3 k (m1 + 2) (n : Int) (i : Int) (S.drop a, 0)) (ref02_Reader_Int.l5 k (m2 + 1) (n : Int) ((2 ^ (7 * i) : Nat) : Int) (i : Int) (S, ((a : Int), 0))) := by
    rw [pack_Reader_Int.l3_eq, ref02_Reader_Int.l5_eq, fine_is]
    have e1 : ieq (i : Int) 8 = false := by rw [ieq_dec]; exact decide_eq_false (by omega)
    have e2 : ilt (i : Int) 8 = true := decide_eq_true (by omega)
    have e3 : iadd .i64 (a : Int) (i : Int) = ((a + i : Nat) : Int) := by rw [iadd_s (by omega) (by omega) (by omega) (by omega)]; omega
    have e4 : ile (ilen (S.drop a)) (i : Int) = decide (S.length ≤ a + i) := by
      unfold ile ilen; rw [List.length_drop]; exact decide_eq_decide.2 ⟨fun h => by omega, fun h => by omega⟩
    have e5 : ile (ilen S) ((a + i : Nat) : Int) = decide (S.length ≤ a + i) := by
      unfold ile ilen; exact decide_eq_decide.2 ⟨fun h => by omega, fun h => by omega⟩
    have e6 : inL (i : Int) (S.drop a) = decide (a + i < S.length) := by
      rw [inL_nat, List.length_drop]; exact decide_eq_decide.2 ⟨fun h => by omega, fun h => by omega⟩
    have e8' : inL ((a + i : Nat) : Int) S = decide (a + i < S.length) := inL_nat _ _
    have e7 : ilt (imul .i64 7 (i : Int)) 0 = false := by
      show decide (IntKind.wrap .i64 (7 * (i : Int)) < 0) = false
      rw [wrap64 (by omega) (by omega)]; exact decide_eq_false (by omega)
    simp only [bnd_some, decide_true, br_true, e1, e2, br_false, fail_is, if_true, e3, e4, e5, e6, e7, e8', byteAt_drop]
    by_cases hl : S.length ≤ a + i
    · simp only [hl, decide_true, br_true]
      rw [int_bad k m1 _ _ _ 4 (by decide)]
      exact ⟨0, _, _, rfl, rfl, rr_bad ha (by decide), by decide, by decide, fun _ => rfl⟩
    · have hl2 : a + i < S.length := by omega
      simp only [hl, hl2, decide_true, decide_false, br_true, br_false]
      have hcr := byteAt_rng S ((a + i : Nat) : Int)
      obtain ⟨c, hc⟩ : ∃ c : Nat, byteAt S ((a + i : Nat) : Int) = (c : Int) := ⟨(byteAt S ((a + i : Nat) : Int)).toNat, by omega⟩
      rw [hc] at hcr ⊢
      have hw : iwrap .i64 (c : Int) = (c : Int) := wrap64 (by omega) (by omega)
      have hc256 : c < 256 := by omega
      obtain ⟨g1, g2⟩ := num_step (c := c) hi8 hc256 hn
      have e12 : iadd .i64 (i : Int) 1 = ((i + 1 : Nat) : Int) := iadd_nat (by omega)
      rw [hw, g1, e12]
      have e8 : ile 128 (c : Int) = decide (128 ≤ c) := by unfold ile; exact decide_eq_decide.2 ⟨fun h => by omega, fun h => by omega⟩
      have e9 : ilt (c : Int) 128 = decide (c < 128) := by unfold ilt; exact decide_eq_decide.2 ⟨fun h => by omega, fun h => by omega⟩
      have e10 : ieq (c : Int) 0 = decide (c = 0) := by rw [ieq_dec]; exact decide_eq_decide.2 ⟨fun h => by omega, fun h => by omega⟩
      have e11 : ilt 0 (i : Int) = decide (0 < i) := ilt_nn 0 i
      rw [e8, e9, e10, e11]
      by_cases hc2 : 128 ≤ c
      · have hc3 : ¬ c < 128 := by omega
        rw [decide_eq_true hc2, decide_eq_false hc3, br_true, br_false]
        rw [ref_step hi8 hc256 hn hc2, unit_step hi8]
        exact ih _ g2
      · have hc3 : c < 128 := by omega
        rw [decide_eq_false hc2, decide_eq_true hc3, br_false, br_true]
        rw [ref_last hi8 hn hc3]
        have hp1 := pow_mono (show i + 1 ≤ 8 by omega)
        obtain ⟨v, hv⟩ : ∃ v : Int, v = ((2 ^ (7 * i) * (c % 128) + n : Nat) : Int) := ⟨_, rfl⟩
        have v0 : 0 ≤ v := by omega
        have v1 : v < 72057594037927936 := by omega
        rw [← hv]
        have fin := int_fin hl2 hS v0 v1
        by_cases hc0 : c = 0
        · simp only [hc0, decide_true, br_true]
          by_cases h0 : 0 < i
          · simp only [h0, decide_true, br_true]
            rw [int_bad k m1 _ _ _ 3 (by decide)]
            exact ⟨0, _, _, rfl, rfl, rr_bad ha (by decide), by decide, by decide, fun _ => rfl⟩
          · simp only [h0, decide_false, br_false]
            exact fin
        · simp only [hc0, decide_false, br_false]
          exact fin
theorem int_l (k : Nat) (S : List UInt8) (a : Nat) (ha : a ≤ S.length) (hS : S.length < 4000000) (m : Nat) : ∀ (i n m1 m2 : Nat), i + m = 8 → m + 2 ≤ m1 → m + 1 ≤ m2 → n < 2 ^ (7 * i) →
    IntOK S (pack_Reader_Int.l3 k m1 (n : Int) (i : Int) (S.drop a, 0)) (ref02_Reader_Int.l5 k m2 (n : Int) ((2 ^ (7 * i) : Nat) : Int) (i : Int) (S, ((a : Int), 0))) := by
  induction m with
  | zero =>
    intro i n m1 m2 hi h1 h2 hn
    obtain ⟨q1, rfl⟩ : ∃ q, m1 = q + 2 := ⟨m1 - 2, by omega⟩
    obtain ⟨q2, rfl⟩ : ∃ q, m2 = q + 1 := ⟨m2 - 1, by omega⟩
    have : i = 8 := by omega
    subst this
    exact int_end k S a ha _ _ q1 q2
  | succ m ih =>
    intro i n m1 m2 hi h1 h2 hn
    obtain ⟨q1, rfl⟩ : ∃ q, m1 = q + 2 := ⟨m1 - 2, by omega⟩
    obtain ⟨q2, rfl⟩ : ∃ q, m2 = q + 1 := ⟨m2 - 1, by omega⟩
    exact int_step k S a ha hS i n q1 q2 (by omega) hn fun v hv => ih (i + 1) v (q1 + 1) q2 (by omega) (by omega) (by omega) hv
theorem int_is (k : Nat) (S : List UInt8) (r : Rdr) (x : RefRdr) (h : RR S r x) (hS : S.length < 4000000) (hk : 12 < k) : IntOK S (pack_Reader_Int.f k r) (ref02_Reader_Int.f k x) := by
  obtain ⟨s, b⟩ := r
  obtain ⟨S', a, e⟩ := x
  obtain ⟨h1, h2, h3, h4, h5⟩ := h
  simp only at h1 h2 h3 h4 h5
  subst h1; subst h4
  rw [pack_Reader_Int.f_eq, ref02_Reader_Int.f_eq, ieq_dec, bnot_dec]
  by_cases hb : b = 0
  · subst hb
    simp only [not_true, decide_false, br_false]
    rw [h5 rfl]
    obtain ⟨A, hA⟩ : ∃ A : Nat, a = (A : Int) := ⟨a.toNat, by omega⟩
    subst hA
    have := int_l k S' A (by omega) hS 8 0 0 k k (by omega) (by omega) (by omega) (by decide)
    exact this
  · simp only [hb, not_false_eq_true, decide_true, br_true]
    obtain ⟨m, rfl⟩ : ∃ m, k = m + 1 := ⟨k - 1, by omega⟩
    rw [int_bad (m + 1) m _ _ _ b hb]
    exact ⟨0, _, _, rfl, rfl, ⟨rfl, h2, h3, rfl, fun h => absurd h hb⟩, by decide, by decide, fun _ => rfl⟩
/-- How many parts follow. -/
theorem many_is (k : Nat) (S : List UInt8) (most : Int) (r : Rdr) (x : RefRdr) (h : RR S r x) (hS : S.length < 4000000) (hk : 12 < k) : ∃ (n : Int) (r' : Rdr) (x' : RefRdr), pack_Reader_Many.f k most r = some (n, r') ∧ ref02_Reader_Many.f k most x = some (n, x') ∧ RR S r' x' ∧ 0 ≤ n ∧ n ≤ (S.length : Int) ∧ (n ≠ 0 → n ≤ most) := by
  obtain ⟨n, r1, x1, e1, e2, hr, n0, n1, nb⟩ := int_is k S r x h hS hk
  rw [pack_Reader_Many.f_eq, ref02_Reader_Many.f_eq, e1, e2]
  simp only [bnd_some, fine_is, fail_is, ieq_dec, bnot_dec, br_dec, ilt_dec]
  obtain ⟨s1, b1⟩ := r1
  obtain ⟨S1, a1, e3⟩ := x1
  obtain ⟨q1, q2, q3, q4, q5⟩ := hr
  simp only at q1 q2 q3 q4 q5 nb ⊢
  subst q1; subst q4
  by_cases hb : b1 = 0
  · subst hb
    have hl : (s1.length : Int) = (S1.length : Int) - a1 := by rw [q5 rfl, List.length_drop]; omega
    have hsub : isub .i64 (ilen S1) a1 = (S1.length : Int) - a1 := by unfold ilen; exact isub_s (by omega) (by omega) (by omega) (by omega)
    have hlen : ilen s1 = (S1.length : Int) - a1 := hl
    simp only [hsub, hlen, not_true, if_false, if_true]
    by_cases c1 : most < n
    · rw [if_pos c1, if_pos c1]
      exact ⟨0, _, _, rfl, rfl, ⟨rfl, q2, q3, rfl, fun h => by cases h⟩, by omega, by omega, fun h => absurd rfl h⟩
    · rw [if_neg c1, if_neg c1]
      by_cases c2 : (S1.length : Int) - a1 < n
      · rw [if_pos c2, if_pos c2]
        exact ⟨0, _, _, rfl, rfl, ⟨rfl, q2, q3, rfl, fun h => by cases h⟩, by omega, by omega, fun h => absurd rfl h⟩
      · rw [if_neg c2, if_neg c2]
        exact ⟨n, _, _, rfl, rfl, ⟨rfl, q2, q3, rfl, q5⟩, n0, by omega, fun _ => by omega⟩
  · simp only [hb, not_false_eq_true, if_true, if_false]
    exact ⟨0, _, _, rfl, rfl, ⟨rfl, q2, q3, rfl, q5⟩, by omega, by omega, fun h => absurd rfl h⟩
theorem fault_is (k : Nat) (r : Rdr) : pack_Reader_Fault.f k r = some (r.2, r) := pack_Reader_Fault.f_eq k r
/-- How many bytes are left. -/
theorem left_is (k : Nat) (S : List UInt8) (r : Rdr) (x : RefRdr) (h : RR S r x) (hS : S.length < 4000000) : ∃ n, pack_Reader_Left.f k r = some (n, r) ∧ ref02_Reader_Left.f k x = some (n, x) := by
  rw [pack_Reader_Left.f_eq, ref02_Reader_Left.f_eq, fine_is]
  obtain ⟨s1, b1⟩ := r
  obtain ⟨S1, a1, e3⟩ := x
  obtain ⟨q1, q2, q3, q4, q5⟩ := h
  simp only at q1 q2 q3 q4 q5 ⊢
  subst q1; subst q4
  simp only [bnd_some, ieq_dec, bnot_dec, br_dec]
  by_cases hb : b1 = 0
  · subst hb
    refine ⟨ilen s1, by simp, ?_⟩
    have hsub : isub .i64 (ilen S1) a1 = ilen s1 := by unfold ilen; rw [isub_s (by omega) (by omega) (by omega) (by omega), q5 rfl, List.length_drop]; omega
    simp [hsub]
  · exact ⟨0, by simp [hb], by simp [hb]⟩
theorem open_rr (S : List UInt8) : RR S (S, 0) (S, (0, 0)) := ⟨rfl, Int.le_refl _, by show (0 : Int) ≤ _; omega, rfl, fun _ => rfl⟩
/-- What is told as wrong in both. -/
theorem RR.fail {S : List UInt8} {r : Rdr} {x : RefRdr} (h : RR S r x) {e : Int} (he : e ≠ 0) (hb : x.2.2 = 0) : RR S (r.1, e) (x.1, (x.2.1, e)) := ⟨h.src, h.lo, h.hi, rfl, fun hh => absurd hh he⟩
end Go.Proofs.Ytennedlpmacicaa
end
section
/- Dots, vectors, rows of dots and sets: the program and the document read the same. -/
namespace Go.Proofs.Ytennedlpmacicaa
open Pal
theorem dotread_is (k : Nat) (S : List UInt8) (r : Rdr) (x : RefRdr) (h : RR S r x) (hS : S.length < 4000000) (hk : 12 < k) :
    ∃ (d : Dot) (r' : Rdr) (x' : RefRdr), dot_Read.f k r = some (d, r') ∧ ref04_Read.f k x = some (d, x') ∧ RR S r' x' ∧ (x'.2.2 = 0 → rightD d = true) := by
  obtain ⟨a, r1, x1, e1, e2, h1, _, _, _⟩ := int_is k S r x h hS hk
  obtain ⟨b, r2, x2, e3, e4, h2, _, _, _⟩ := int_is k S r1 x1 h1 hS hk
  rw [dot_Read.f_eq, ref04_Read.f_eq, e1, e2]
  simp only [bnd_some, e3, e4, fault_is, fail_is, ieq_dec, bnot_dec, br_dec, right_is, rright_is]
  obtain ⟨s2, b2⟩ := r2
  obtain ⟨S2, a2, c2⟩ := x2
  have hb : b2 = c2 := h2.bad
  subst hb
  by_cases hz : b2 = 0
  · subst hz
    simp only [if_true]
    cases hr : rightD (a, b) with
    | true =>
      have e : bnot true = false := rfl
      simp only [e, br_false, not_true, if_false]
      exact ⟨(a, b), _, _, rfl, rfl, h2, fun _ => hr⟩
    | false =>
      have e : bnot false = true := rfl
      simp only [e, br_true]
      exact ⟨(0, 0), _, _, rfl, rfl, h2.fail (e := 2) (by decide) rfl, fun hh => by cases hh⟩
  · simp only [hz, not_false_eq_true, if_true, if_false]
    exact ⟨(0, 0), _, _, rfl, rfl, h2, fun hh => absurd hh hz⟩
theorem upd_len {v : Vec} {i : Nat} {x : Int} : (upd v i x).length = v.length := by simp [upd]
theorem vread_l (k : Nat) (S : List UInt8) (hS : S.length < 4000000) (hk : 17 < k) (za zb : Vec) : ∀ (n i : Nat) (v : Vec) (r : Rdr) (x : RefRdr), i ≤ 16 → 16 < n + i → v.length = 16 → RR S r x →
    ∃ (v' : Vec) (r' : Rdr) (x' : RefRdr), vec_Read.l3 k n (i : Int) za v r = some (v', r') ∧ ref05_Read.l3 k n (i : Int) zb v x = some (v', x') ∧ RR S r' x' ∧ v'.length = 16 ∧ (x'.2.2 = 0 → VOk v')
  | 0, i, _, _, _, h, h', _, _ => by omega
  | n + 1, i, v, r, x, h, h', hv, hr => by
    rw [vec_Read.l3_eq, ref05_Read.l3_eq]
    have e1 : ilt (i : Int) 16 = decide (i < 16) := ilt_nn i 16
    rw [e1, inB_nat]
    by_cases hi : i < 16
    · obtain ⟨a, r1, x1, e2, e3, h1, _, _, _⟩ := int_is k S r x hr hS (by omega)
      have e4 : iadd .i64 (i : Int) 1 = ((i + 1 : Nat) : Int) := iadd_nat (by omega)
      rw [decide_eq_true hi, e2, e3, e4]
      simp only [br_true, bnd_some]
      exact vread_l k S hS hk za zb n (i + 1) _ r1 x1 (by omega) (by omega) (by rw [upd_len]; exact hv) h1
    · rw [decide_eq_false hi]
      obtain ⟨b1, g1, i1⟩ := vr_is k v hv hk
      obtain ⟨b2, g2, i2⟩ := rvr_is k v hv hk
      have hbb : b1 = b2 := by rw [Bool.eq_iff_iff, i1, i2]
      subst hbb
      simp only [br_false, bnd_some, g1, g2, fault_is, fail_is, ieq_dec, bnot_dec, br_dec]
      obtain ⟨s2, c1⟩ := r
      obtain ⟨S2, a2, c2⟩ := x
      have hb : c1 = c2 := hr.bad
      subst hb
      by_cases hz : c1 = 0
      · subst hz
        simp only [if_true]
        cases b1 with
        | true =>
          have e : bnot true = false := rfl
          simp only [e, br_false, not_true, if_false]
          exact ⟨v, _, _, rfl, rfl, hr, hv, fun _ => i1.1 rfl⟩
        | false =>
          have e : bnot false = true := rfl
          simp only [e, br_true]
          exact ⟨zarr 16 0, _, _, rfl, rfl, hr.fail (e := 2) (by decide) rfl, rfl, fun hh => by cases hh⟩
      · simp only [hz, not_false_eq_true, if_true, if_false]
        exact ⟨zarr 16 0, _, _, rfl, rfl, hr, rfl, fun hh => absurd hh hz⟩
theorem vread_is (k : Nat) (S : List UInt8) (r : Rdr) (x : RefRdr) (h : RR S r x) (hS : S.length < 4000000) (hk : 17 < k) :
    ∃ (v' : Vec) (r' : Rdr) (x' : RefRdr), vec_Read.f k r = some (v', r') ∧ ref05_Read.f k x = some (v', x') ∧ RR S r' x' ∧ v'.length = 16 ∧ (x'.2.2 = 0 → VOk v') := by
  rw [vec_Read.f_eq, ref05_Read.f_eq]
  exact vread_l k S hS hk _ _ k 0 (zarr 16 0) r x (by omega) (by omega) rfl h
theorem lread_l (k : Nat) (S : List UInt8) (hS : S.length < 1000000) (hk : 12 < k) (N : Nat) (hN : N ≤ S.length) : ∀ (n i : Nat) (l : List Dot) (r : Rdr) (x : RefRdr), i ≤ N → N < n + i → l.length = i → RR S r x →
    ∃ (l' : List Dot) (r' : Rdr) (x' : RefRdr), dots_ReadList.l3 k n l (N : Int) (i : Int) r = some (l', r') ∧ ref06_ReadList.l4 k n (N : Int) l (i : Int) x = some (l', x') ∧ RR S r' x' ∧ l'.length ≤ N
  | 0, i, _, _, _, h, h', _, _ => by omega
  | n + 1, i, l, r, x, h, h', hl, hr => by
    rw [dots_ReadList.l3_eq, ref06_ReadList.l4_eq, ilt_nn]
    by_cases hi : i < N
    · obtain ⟨d, r1, x1, e1, e2, h1, _⟩ := dotread_is k S r x hr (by omega) hk
      have e4 : iadd .i64 (i : Int) 1 = ((i + 1 : Nat) : Int) := iadd_nat (by omega)
      rw [decide_eq_true hi, e1, e2, e4]
      simp only [br_true, bnd_some, room1 (show l.length < 4000000 by omega)]
      exact lread_l k S hS hk N hN n (i + 1) _ r1 x1 (by omega) (by omega) (by simp [app, hl]) h1
    · rw [decide_eq_false hi]
      simp only [br_false, bnd_some, fault_is, ieq_dec, bnot_dec, br_dec]
      have hb : r.2 = x.2.2 := hr.bad
      rw [hb]
      by_cases hz : x.2.2 = 0
      · simp only [hz, not_true, if_false]
        exact ⟨l, _, _, rfl, rfl, hr, by omega⟩
      · simp only [hz, not_false_eq_true, if_true]
        exact ⟨[], _, _, rfl, rfl, hr, by simp⟩
theorem lread_is (k : Nat) (S : List UInt8) (most : Int) (r : Rdr) (x : RefRdr) (h : RR S r x) (hS : S.length < 1000000) (hk : 12 < k) (hk2 : S.length < k) :
    ∃ (l : List Dot) (r' : Rdr) (x' : RefRdr), dots_ReadList.f k most r = some (l, r') ∧ ref06_ReadList.f k most x = some (l, x') ∧ RR S r' x' ∧ l.length ≤ S.length ∧ (l ≠ [] → (l.length : Int) ≤ most) := by
  obtain ⟨n, r1, x1, e1, e2, h1, n0, n1, nm⟩ := many_is k S most r x h (by omega) hk
  rw [dots_ReadList.f_eq, ref06_ReadList.f_eq, e1, e2]
  simp only [bnd_some]
  obtain ⟨N, rfl⟩ : ∃ N : Nat, n = (N : Int) := ⟨n.toNat, by omega⟩
  obtain ⟨l, r', x', g1, g2, g3, g4⟩ := lread_l k S hS hk N (by omega) k 0 [] r1 x1 (by omega) (by omega) rfl h1
  refine ⟨l, r', x', g1, g2, g3, by omega, fun hne => ?_⟩
  have hpos : 0 < l.length := List.length_pos_iff.2 hne
  have := nm (by omega)
  omega
theorem dread_is (k : Nat) (S : List UInt8) (r : Rdr) (x : RefRdr) (h : RR S r x) (hS : S.length < 5000) (hk : 5000 < k) (hk2 : k < 1000000) :
    ∃ (s : DSet) (r' : Rdr) (x' : RefRdr), dots_Read.f k r = some (s, r') ∧ ref06_Read.f k x = some (s, x') ∧ RR S r' x' ∧ s.2.length ≤ S.length ∧ s.1.length = 16 ∧ (x'.2.2 = 0 → Can s) := by
  obtain ⟨v, r1, x1, e1, e2, h1, hv, hvo⟩ := vread_is k S r x h (by omega) (by omega)
  obtain ⟨l, r2, x2, e3, e4, h2, hl, hlm⟩ := lread_is k S 4096 r1 x1 h1 (by omega) (by omega) (by omega)
  obtain ⟨b1, g1, i1⟩ := dr_is k (v, l) hv hk hk2
  obtain ⟨b2, g2, i2⟩ := rr_is k (v, l) hv hk hk2
  have hbb : b1 = b2 := by rw [Bool.eq_iff_iff, i1, i2]
  subst hbb
  rw [dots_Read.f_eq, ref06_Read.f_eq, e1, e2]
  simp only [bnd_some, e3, e4]
  simp only [g1, g2, bnd_some, fault_is, fail_is, ieq_dec, bnot_dec, br_dec]
  obtain ⟨s2, c1⟩ := r2
  obtain ⟨S2, a2, c2⟩ := x2
  have hb : c1 = c2 := h2.bad
  subst hb
  by_cases hz : c1 = 0
  · subst hz
    simp only [if_true]
    cases b1 with
    | true =>
      have e : bnot true = false := rfl
      simp only [e, br_false, not_true, if_false]
      exact ⟨(v, l), _, _, rfl, rfl, h2, hl, hv, fun _ => (i1.1 rfl).1⟩
    | false =>
      have e : bnot false = true := rfl
      simp only [e, br_true]
      exact ⟨(zarr 16 0, []), _, _, rfl, rfl, h2.fail (e := 2) (by decide) rfl, by simp, rfl, fun hh => by cases hh⟩
  · simp only [hz, not_false_eq_true, if_true, if_false]
    exact ⟨(zarr 16 0, []), _, _, rfl, rfl, h2, by simp, rfl, fun hh => absurd hh hz⟩
end Go.Proofs.Ytennedlpmacicaa
end
section
/- Chapter 6's example: it is as it is told. -/
namespace Go.Proofs.Ytennedlpmacicaa
open Pal
set_option maxRecDepth 100000 in
theorem law06_awake.is (k : Nat) : law06_awake.f (k + 40) = some true := by kernel_rfl
theorem awake06 {k : Nat} (h : 40 ≤ k) : law06_awake.f k = some true := by
  obtain ⟨q, rfl⟩ : ∃ q, k = q + 40 := ⟨k - 40, by omega⟩
  exact law06_awake.is q
end Go.Proofs.Ytennedlpmacicaa
end
section
/- The plain law: the run of DotsRead answers true for every input. -/
namespace Go.Proofs.Ytennedlpmacicaa
open Pal
theorem dotsRead_core (s : List UInt8) (hs : s.length ≤ 300) (most : Int) :
    (bnd (pack_Open.f 6000 s) fun r15 => bnd (dots_Read.f 6000 r15.2) fun r16 => bnd (ref06_Read.f 6000 (s, (0, 0))) fun r17 => bnd (dots_Same.f 6000 r16.1 r17.1) fun r18 =>
    br (bnot r18) (some false)
      (bnd (pack_Reader_Fault.f 6000 r16.2) fun r19 =>
      br (bnot (ieq r19.1 r17.2.2.2)) (some false)
        (bnd (pack_Reader_Left.f 6000 r19.2) fun r20 => bnd (ref02_Reader_Left.f 6000 r17.2) fun r21 =>
        br (bnot (ieq r20.1 r21.1)) (some false)
          (bnd (pack_Open.f 6000 s) fun r22 => bnd (dots_ReadList.f 6000 most r22.2) fun r23 => bnd (ref06_ReadList.f 6000 most (s, (0, 0))) fun r24 => bnd (ref04_Same.f 6000 r23.1 r24.1) fun r25 =>
          br r25
            (bnd (pack_Reader_Fault.f 6000 r23.2) fun r26 =>
            br (ieq r26.1 r24.2.2.2)
              (bnd (pack_Reader_Left.f 6000 r26.2) fun r27 => bnd (ref02_Reader_Left.f 6000 r24.2) fun r28 =>
              br (ieq r27.1 r28.1) (bnd (law06_awake.f 6000) fun r29 => some r29) (some false))
              (some false))
            (some false))))) = some true := by
  have aw : law06_awake.f 6000 = some true := awake06 (by decide)
  have bt : bnot true = false := rfl
  obtain ⟨d, r1, x1, e1, e2, h1, hl, hv, _⟩ := dread_is 6000 s _ _ (open_rr s) (by omega) (by decide) (by decide)
  obtain ⟨l, r2, x2, e3, e4, h2, hl2, _⟩ := lread_is 6000 s most _ _ (open_rr s) (by omega) (by decide) (by omega)
  obtain ⟨n1, f1, f2⟩ := left_is 6000 s r1 x1 h1 (by omega)
  obtain ⟨n2, f3, f4⟩ := left_is 6000 s r2 x2 h2 (by omega)
  rw [pack_Open.f_eq]
  simp only [bnd_some]
  rw [e1, e2]
  simp only [bnd_some]
  rw [same_is 6000 d d (by omega) (by decide)]
  simp only [bnd_some, decide_true, bt, br_false, fault_is, f1, f2, ieq_dec, h1.bad]
  rw [e3, e4]
  simp only [bnd_some]
  rw [reqD 6000 l l (by omega) (by decide)]
  simp only [bnd_some, decide_true, br_true, fault_is, f3, f4, ieq_dec, h2.bad, aw]
theorem dotsRead_true (s : Ty.D .str) (_ : Fits .str s) (most : Ty.D (.int .i64)) (_ : Fits (.int .i64) most) : ∃ k, law06_DotsRead.f k s most = some true := by
  refine ⟨6000, ?_⟩
  rw [law06_DotsRead.f_eq]
  have e : ilt 300 (ilen s) = decide (300 < List.length s) := by unfold ilt ilen; exact decide_eq_decide.2 ⟨fun h => by omega, fun h => by omega⟩
  rw [e]
  by_cases hs : 300 < List.length s
  · rw [decide_eq_true hs, br_true]
    have hin : inS 0 300 (ilen s) = true := by
      have : (300 : Int) ≤ (List.length s : Int) := by omega
      show (decide ((0 : Int) ≤ 0) && decide ((0 : Int) ≤ 300) && decide ((300 : Int) ≤ (List.length s : Int))) = true
      rw [decide_eq_true this]; rfl
    rw [hin, br_true]
    exact dotsRead_core (piece s 0 300) (by unfold piece; rw [List.length_drop, List.length_take]; omega) most
  · rw [decide_eq_false hs, br_false]
    exact dotsRead_core s (by omega) most
#print axioms dotsRead_true
end Go.Proofs.Ytennedlpmacicaa
end
section
/- The statement of the law DotsRead: for every input the law returns true, and its arguments read as they did. No conditions. -/
namespace Go.Proofs.Ytennedlpmacicaa.dotsReadDone
open Go.ChangeShapes Go.WideShapes Go.ChangeAt Go.RowKit
open Pal
set_option linter.unusedVariables false

theorem own : ownKnob Try.prog.godebug = none := by kernel_rfl
theorem laidOut : laidOutB Try.prog = true := by kernel_rfl
theorem tyOK {t : Nat} {τ : Ty} {nf : Nat} (h : tiB Try.prog t ⟨τ, nf⟩ = true) : tyB Try.prog 40 t τ = true := by
  simp only [tiB, Bool.and_eq_true] at h; exact h.1.1.1
theorem ty0 : tyB Try.prog 40 9 .str = true := by kernel_rfl
theorem ty1 : tyB Try.prog 40 3 (.int .i64) = true := by kernel_rfl

theorem walk (W : World) (v0 : Value) (x0 : Ty.D .str) (h0 : TRep (gh0 W) W (.dat .str x0) v0 []) (f0 : Fits .str x0) (v1 : Value) (x1 : Ty.D (.int .i64)) (h1 : TRep (gh0 W) W (.dat (.int .i64) x1) v1 []) (f1 : Fits (.int .i64) x1) :
    Calls Try.prog 10 #[v0, v1] W fun e w' => e = .returned (.bool true) ∧ Below W.heap.size W w' := by
  obtain ⟨k, hk⟩ := dotsRead_true x0 f0 x1 f1
  exact law_calls' (args := [.dat .str x0, .dat (.int .i64) x1]) (argv := [v0, v1]) (code := law06_DotsRead.body) (σ := law06_DotsRead.sg) (F := fun x => law06_DotsRead.f k x.1 x.2) (x := (x0, x1)) (r := true) (law06_DotsRead.ok k) Try.func10 (by kernel_rfl) (by kernel_rfl) (by kernel_rfl) (by kernel_rfl) hk rfl rfl
    ⟨v0, _, [], [], rfl, rfl, h0, ⟨v1, _, [], [], rfl, rfl, h1, ⟨rfl, rfl⟩⟩⟩

set_option maxRecDepth 100000 in
theorem lifted (os : Os) (started : os.Started) (H : Type) (enc : TypeId × Value → H) :
    ReturnsInHanded {} Try.checked os 10 .any (Rows.dotsReadSpec.pre6 enc Try.prog Try.f10 Rows.dotsReadRow.domain false) (Rows.dotsReadSpec.post enc Try.prog Try.f10 false true false false) := by
  refine returnsInHanded_of_change (C := Try.checked) own started (by kernel_rfl) Try.func10
    (ChangeSpec.witness6 (enc := enc) (C := Try.checked) false ⟨#[], #[.string ByteArray.empty, .int .i64 0], []⟩ 12 (by kernel_rfl) (by kernel_rfl) (by kernel_rfl) (by kernel_rfl)) ?_
  intro W base args ds gs before hval0 hW hcnd _
  have hval : ∀ (j : Nat) t v, Try.f10.params[j]? = some t → args[j]? = some v → Value.okWide Try.prog W .any base t v := hval0
  have hW' := hW
  obtain ⟨p, q, hA0, hV, rfl, hfz, hnd⟩ := hW
  have hA : DataW.TrodAll enc Try.prog W 0 (fun _ => true) true Try.f10.params.toList args.toList ds p := hA0
  rw [Try.params10] at hA hval
  obtain ⟨v0, vs0, d0, ds0, p0, q0, hargs, rfl, rfl, h0, r0⟩ := trodAll_cons hA
  obtain ⟨v1, vs1, d1, ds1, p1, q1, rfl, rfl, rfl, h1, r1⟩ := trodAll_cons r0
  obtain ⟨rfl, rfl, rfl⟩ := trodAll_nil r1
  obtain rfl : args = #[v0, v1] := by cases args; simp_all
  obtain ⟨rfl, rfl⟩ := trodVars_none hV
  have k0 := h0
  have lt0 : ∀ x ∈ p0, x.block < W.heap.size := by obtain ⟨m, hm⟩ := k0; exact DataW.trod_lt m _ _ _ hm
  obtain ⟨x0, g0, f0⟩ := arg_open ty0 (hval 0 9 v0 rfl rfl) h0
  have k1 := h1
  have lt1 : ∀ x ∈ p1, x.block < W.heap.size := by obtain ⟨m, hm⟩ := k1; exact DataW.trod_lt m _ _ _ hm
  obtain ⟨x1, g1, f1⟩ := arg_open ty1 (hval 1 3 v1 rfl rfl) h1
  clear hA0 hval0
  refine (walk W v0 x0 g0 f0 v1 x1 g1 f1).mono fun e W' ⟨he, bel⟩ => ?_
  subst he
  exact ⟨_, rfl, _, _, _, [], _, [], hW', trodAll_mk1 (shut_bool Try.underlying4 _), (trodAll_cons_mk (Below.trod laidOut (by kernel_rfl) (of_decide_eq_true (by kernel_rfl)) k0 bel lt0) (trodAll_cons_mk (Below.trod laidOut (by kernel_rfl) (of_decide_eq_true (by kernel_rfl)) k1 bel lt1) trodAll_mk0)), rfl, bel.frame _, fun h => by cases h⟩

theorem over : Rows.dotsReadRow.holds Try.pinned (OpenSpec.ofChange Rows.dotsReadSpec) :=
  OpenClaim.holds_of_wide 10 Try.f10 rfl rfl rfl rfl rfl rfl rfl ⟨rfl, rfl, rfl, rfl, rfl⟩ rfl rfl rfl rfl rfl (by kernel_rfl) Try.func10 (by kernel_rfl)
    (of_decide_eq_true (by kernel_rfl)) (by unfold Func.isWrapper; first | (rw [if_pos (by decide +kernel)]; kernel_rfl) | (rw [if_neg (by decide +kernel)]; exact ⟨rfl, rfl⟩))
    (fun os started H enc _ => lifted os started H enc)

/-- ████ THE STATEMENT ████ -/
theorem proved : Rows.DotsReadSaid := over
#print axioms proved
end Go.Proofs.Ytennedlpmacicaa.dotsReadDone
end
