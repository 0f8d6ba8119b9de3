/- The plain law: the run of DotsOrder answers true for every input. -/
import Derived.Test.YtennedlpmacicaaDoRun4
import Derived.Test.YtennedlpmacicaaDoAwake
import Derived.Test.YtennedlpmacicaaRow
namespace Go.Proofs.Ytennedlpmacicaa
open Pal
theorem law_end (k : Nat) (l m : List Dot) (d : Dot) (hl : l.length ≤ 60) (hk : 5000 < k) (hk2 : k < 1000000) (hm : ∀ x, x ∈ l ↔ x ∈ m) (hml : m.length ≤ 60) (b : Bool) (hb : b = true ↔ d ∈ l ∧ rightD d = true) :
    (bnd (dots_Of.f k l) fun r1 =>
    bnd (ref06_Of.f k l) fun r2 =>
    bnd (ref06_Same.f k r1 r2) fun r3 =>
    br r3
      (bnd (dots_Of.f k m) fun r4 =>
      bnd (dots_Same.f k r1 r4) fun r5 =>
      br r5
        (bnd (ref06_Right.f k r1) fun r6 =>
        br r6
          (bnd (dots_Has.f k r1 d) fun r7 =>
          br (deq .bool r7 b)
            (bnd (law06_awake.f k) fun r8 =>
            some r8)
            (some false))
          (some false))
        (some false))
      (some false)) = some true := by
  obtain ⟨c1, c2, c3⟩ := ofD_can l
  rw [of_is k l (by omega) hk2, rof_is k l (by omega) hk2, of_is k m (by omega) hk2]
  simp only [bnd_some]
  rw [rsame_is k _ _ (by omega) hk2, ← ofD_perm hm, same_is k _ _ (by omega) hk2, rr_true k c1 (by omega) hk hk2, has_is k _ _ (by omega) (by omega) hk2 c1, awake06 (by omega)]
  simp only [bnd_some, decide_true, br_true]
  have : memB (ofD l) d = b := by
    rw [Bool.eq_iff_iff, memB_iff, c2, hb]; exact And.comm
  rw [this]
  have e : deq .bool b b = true := by cases b <;> rfl
  rw [e]; rfl
theorem order_l (k : Nat) (l : List Dot) (d : Dot) (hl : l.length ≤ 60) (hk : 5000 < k) (hk2 : k < 1000000) : ∀ (n i : Nat) (m : List Dot) (b : Bool), i ≤ l.length → i < n → m = (l.drop i).reverse → (b = true ↔ d ∈ l.drop i ∧ rightD d = true) → law06_DotsOrder.l6 k n l m b ((i : Int) - 1) d = some true
  | 0, i, _, _, h, h', _, _ => by omega
  | n + 1, 0, m, b, h, h', hm, hb => by
    rw [law06_DotsOrder.l6_eq]
    have e : ile 0 (((0 : Nat) : Int) - 1) = false := rfl
    rw [e]
    simp only [br_false]
    rw [List.drop_zero] at hm hb
    exact law_end k l m d hl hk hk2 (fun x => by rw [hm, List.mem_reverse]) (by rw [hm, List.length_reverse]; exact hl) b hb
  | n + 1, i + 1, m, b, h, h', hm, hb => by
    rw [law06_DotsOrder.l6_eq]
    have e0 : ((i + 1 : Nat) : Int) - 1 = (i : Int) := by omega
    have e : ile 0 (i : Int) = true := by simp [ile]
    have hi : i < l.length := by omega
    have e2 : isub .i64 (i : Int) 1 = (i : Int) - 1 := isub_s (by omega) (by omega) (by omega) (by omega)
    rw [e0, e, inL_nat, natOf_nat, rd_at' (e := tDot) hi, e2, deqD, rright_is, room1 (by rw [hm, List.length_reverse, List.length_drop]; omega)]
    have hm' : app m (l[i] :: []) = (l.drop i).reverse := by
      rw [List.drop_eq_getElem_cons hi, List.reverse_cons, ← hm]; rfl
    rw [hm']
    simp only [hi, decide_true, br_true, bnd_some]
    have hd : ∀ x, x ∈ l.drop i ↔ x = l[i] ∨ x ∈ l.drop (i + 1) := fun x => by rw [List.drop_eq_getElem_cons hi, List.mem_cons]
    cases b with
    | true =>
      simp only [br_true]
      exact order_l k l d hl hk hk2 n i _ true (by omega) (by omega) rfl ⟨fun _ => ⟨(hd d).2 (.inr (hb.1 rfl).1), (hb.1 rfl).2⟩, fun _ => rfl⟩
    | false =>
      simp only [br_false]
      by_cases he : l[i] = d
      · simp only [he, decide_true, br_true]
        refine order_l k l d hl hk hk2 n i _ _ (by omega) (by omega) rfl ?_
        exact ⟨fun h => ⟨(hd d).2 (.inl he.symm), h⟩, fun h => h.2⟩
      · simp only [he, decide_false, br_false]
        refine order_l k l d hl hk hk2 n i _ _ (by omega) (by omega) rfl ?_
        exact ⟨fun h => (by cases h), fun h => hb.2 ⟨((hd d).1 h.1).resolve_left (fun e => he e.symm), h.2⟩⟩
theorem dotsOrder_true (l : Ty.D (.slc tDot)) (_ : Fits (.slc tDot) l) (d : Ty.D tDot) (_ : Fits tDot d) : ∃ k, law06_DotsOrder.f k l d = some true := by
  refine ⟨6000, ?_⟩
  rw [law06_DotsOrder.f_eq]
  have e : ilt 60 (ilen l) = decide (60 < l.length) := ilt_nat 60 l
  rw [e]
  by_cases h : 60 < l.length
  · simp only [h, decide_true, br_true, awake06 (show 40 ≤ 6000 by decide), bnd_some]
  · simp only [h, decide_false, br_false]
    have e2 : isub .i64 (ilen l) 1 = ((l.length : Nat) : Int) - 1 := isub_s (by unfold ilen; omega) (by unfold ilen; omega) (by omega) (by omega)
    rw [e2]
    exact order_l 6000 l d (by omega) (by decide) (by decide) 6000 l.length [] false (Nat.le_refl _) (by omega) (by rw [List.drop_length]; rfl) ⟨fun h => (by cases h), fun h => by rw [List.drop_length] at h; simp at h⟩
#print axioms dotsOrder_true
end Go.Proofs.Ytennedlpmacicaa
