/- What the functions of the layer of dots compute, on. -/
import Derived.Test.YtennedlpmacicaaDoRun
namespace Go.Proofs.Ytennedlpmacicaa
open Pal
theorem wrap_u64 {n : Int} (h1 : 0 ≤ n) (h2 : n < 2 ^ 63) : IntKind.wrap .u64 n = n := by
  have e1 : ((2 : Int) ^ 63) = 9223372036854775808 := by decide
  rw [e1] at h2
  simp only [IntKind.wrap, IntKind.signed, IntKind.bits]
  simp
  omega
theorem mid_is {i j : Nat} (h : i + j < 1000000000) : iwrap .i64 (ishr .u64 (iwrap .u64 (iadd .i64 (i : Int) (j : Int))) 1) = (((i + j) / 2 : Nat) : Int) := by
  have e1 : ((2 : Int) ^ 63) = 9223372036854775808 := by decide
  rw [iadd_s (by omega) (by omega) (by omega) (by omega)]
  unfold iwrap ishr
  rw [wrap_u64 (by omega) (by rw [e1]; omega)]
  have e2 : (2 : Int) ^ (min (1 : Int).toNat (IntKind.bits .u64)) = 2 := by decide
  rw [e2, show (i : Int) + (j : Int) = ((i + j : Nat) : Int) by omega]
  have e3 : Int.fdiv ((i + j : Nat) : Int) 2 = (((i + j) / 2 : Nat) : Int) := by
    rw [Int.fdiv_eq_ediv_of_nonneg _ (by decide)]; rfl
  rw [e3, wrap_i64 (by rw [e1]; omega) (by rw [e1]; omega)]
/-- Where a dot is laid in, and whether it is there. -/
def Found (l : List Dot) (d : Dot) (p : Nat) (b : Bool) : Prop :=
  p ≤ l.length ∧ (∀ j (h : j < l.length), j < p → dotLt l[j] d = true) ∧ (∀ j (h : j < l.length), p ≤ j → dotLt l[j] d = false) ∧ b = decide (d ∈ l)
theorem srt_get {l : List Dot} (hs : l.Pairwise (fun a b => dotLt a b = true)) {i j : Nat} (hi : i < l.length) (hj : j < l.length) (h : i < j) : dotLt l[i] l[j] = true := List.pairwise_iff_getElem.1 hs i j hi hj h
theorem cmp_lt0 (a b : Dot) : ilt (cmpD a b) 0 = dotLt a b := rfl
theorem cmp_eq0 (a b : Dot) : ieq (cmpD a b) 0 = decide (a = b) := by
  rw [ieq_dec]; congr 1
  unfold cmpD
  apply propext
  by_cases h : a.1 = b.1
  · rw [if_pos ((cmpI_eq _ _).2 h), cmpI_eq]; exact ⟨fun h2 => Prod.ext h h2, fun e => by rw [e]⟩
  · rw [if_neg (fun e => h ((cmpI_eq _ _).1 e)), cmpI_eq]; exact ⟨fun e => absurd e h, fun e => by rw [e]⟩
theorem bs_l (k : Nat) (l : List Dot) (d : Dot) (hl : l.length < 1000000) (hs : l.Pairwise (fun a b => dotLt a b = true)) : ∀ (n i j : Nat), i ≤ j → j ≤ l.length → j < n + i → (∀ t (h : t < l.length), t < i → dotLt l[t] d = true) → (∀ t (h : t < l.length), j ≤ t → dotLt l[t] d = false) →
    ∃ p b, Found l d p b ∧ slices_BinarySearchFunc_api_Dot_api_Dot_api_Dot_66.l3 (k + 3) n l (ilen l) (i : Int) (j : Int) d = some ((p : Int), b)
  | 0, i, j, h, _, h', _, _ => by omega
  | n + 1, i, j, hij, hj, hn, h1, h2 => by
    rw [slices_BinarySearchFunc_api_Dot_api_Dot_api_Dot_66.l3_eq, ilt_nn, mid_is (by omega)]
    by_cases hlt : i < j
    · have e0 : ilt 1 0 = false := rfl
      have hm : (i + j) / 2 < l.length := by omega
      rw [inL_nat, natOf_nat, rd_at' (e := tDot) hm, cmpD_is, e0]
      simp only [hlt, hm, decide_true, br_true, br_false, bnd, cmp_lt0]
      have hi' : i ≤ (i + j) / 2 := by omega
      have hj' : (i + j) / 2 < j := by omega
      generalize (i + j) / 2 = m at hm hi' hj' ⊢
      cases hc : dotLt l[m] d with
      | true =>
        rw [iadd_nat (by omega)]
        simp only [br_true]
        exact bs_l k l d hl hs n (m + 1) j (by omega) hj (by omega) (fun t ht htm => by
          rcases Nat.lt_or_ge t m with h | h
          · exact dotLt_swo.trans _ _ _ (srt_get hs ht hm h) hc
          · have : t = m := by omega
            subst this; exact hc) h2
      | false =>
        simp only [br_false]
        exact bs_l k l d hl hs n i m hi' (by omega) (by omega) h1 (fun t ht htm => by
          rcases Nat.lt_or_ge m t with h | h
          · cases hh : dotLt l[t] d with
            | false => rfl
            | true => exfalso; have := dotLt_swo.trans _ _ _ (srt_get hs hm ht h) hh; rw [hc] at this; cases this
          · have : t = m := by omega
            subst this; exact hc)
    · have : i = j := by omega
      subst this
      have hge : ∀ t (h : t < l.length), l[t] = d → i ≤ t := fun t h e => by
        rcases Nat.lt_or_ge t i with hh | hh
        · have := h1 t h hh; rw [e, dotLt_swo.irrefl] at this; cases this
        · exact hh
      simp only [Nat.lt_irrefl, decide_false, br_false, ilt_nat, inL_nat, natOf_nat]
      by_cases hil : i < l.length
      · rw [rd_at' (e := tDot) hil, cmpD_is]
        simp only [hil, decide_true, br_true, bnd, cmp_eq0]
        refine ⟨i, _, ⟨hj, h1, h2, ?_⟩, rfl⟩
        congr 1
        apply propext
        constructor
        · intro e; rw [← e]; exact List.getElem_mem hil
        · intro e
          obtain ⟨t, ht, he⟩ := List.getElem_of_mem e
          have h3 := hge t ht he
          rcases Nat.lt_or_ge i t with hh | hh
          · have h4 := srt_get hs hil ht hh
            rw [he] at h4
            have := h2 i hil (Nat.le_refl _)
            rw [h4] at this; cases this
          · have : t = i := by omega
            subst this; exact he
      · simp only [hil, decide_false, br_false]
        refine ⟨i, _, ⟨hj, h1, h2, ?_⟩, rfl⟩
        symm; rw [decide_eq_false_iff_not]
        intro e
        obtain ⟨t, ht, he⟩ := List.getElem_of_mem e
        have := hge t ht he; omega
theorem bs_is (k : Nat) (l : List Dot) (d : Dot) (h3 : 3 ≤ k) (hl : l.length < k) (hk : k < 1000000) (hs : l.Pairwise (fun a b => dotLt a b = true)) : ∃ p b, Found l d p b ∧ slices_BinarySearchFunc_api_Dot_api_Dot_api_Dot_66.f k l d = some ((p : Int), b) := by
  obtain ⟨q, rfl⟩ : ∃ q, k = q + 3 := ⟨k - 3, by omega⟩
  rw [slices_BinarySearchFunc_api_Dot_api_Dot_api_Dot_66.f_eq]
  exact bs_l q l d (by omega) hs (q + 3) 0 l.length (by omega) (Nat.le_refl _) (by omega) (fun t _ h => by omega) (fun t h h' => by omega)
theorem has_is (k : Nat) (s : DSet) (d : Dot) (h3 : 3 ≤ k) (hl : s.2.length < k) (hk : k < 1000000) (hs : Can s) : dots_Has.f k s d = some (memB s d) := by
  rw [dots_Has.f_eq, vhas_is]
  simp only [bnd]
  obtain ⟨p, b, hf, he⟩ := bs_is k s.2 d h3 hl hk hs.srt
  rw [he, hf.2.2.2]
  unfold memB
  cases h : rightD d with
  | false =>
    have : d ∉ s.2 := fun hd => by rw [hs.rt d hd] at h; cases h
    simp [this, br_false]
  | true =>
    by_cases h2 : d.2 ≤ vat s.1 d.1 <;> simp [h2, br_true, br_false]
/-- A dot laid in its place. -/
def insR (d : Dot) : List Dot → List Dot
  | [] => [d]
  | y :: r => if dotLt d y then d :: y :: r else y :: insR d r
theorem insR_perm (d : Dot) : ∀ l, (insR d l).Perm (d :: l)
  | [] => List.Perm.refl _
  | y :: r => by
    unfold insR
    split
    · exact List.Perm.refl _
    · exact ((insR_perm d r).cons y).trans (List.Perm.swap d y r)
theorem insR_srt {d : Dot} : ∀ {l : List Dot}, l.Pairwise (fun a b => dotLt a b = true) → d ∉ l → (insR d l).Pairwise (fun a b => dotLt a b = true)
  | [], _, _ => List.pairwise_singleton _ _
  | y :: r, h, hd => by
    have h' := List.pairwise_cons.1 h
    unfold insR
    split
    · rename_i hy
      refine List.pairwise_cons.2 ⟨fun z hz => ?_, h⟩
      rcases List.mem_cons.1 hz with rfl | hz
      · exact hy
      · exact dotLt_swo.trans _ _ _ hy (h'.1 z hz)
    · rename_i hy
      have hyd : dotLt y d = true := by
        cases hh : dotLt y d with
        | true => rfl
        | false => exact absurd (by rw [dotLt_tot y d hh (by simpa using hy)]; exact List.mem_cons_self) hd
      refine List.pairwise_cons.2 ⟨fun z hz => ?_, insR_srt h'.2 (fun hh => hd (List.mem_cons_of_mem _ hh))⟩
      rcases List.mem_cons.1 ((insR_perm d r).mem_iff.1 hz) with rfl | hz
      · exact hyd
      · exact h'.1 z hz
theorem insAt_is {l : List Dot} {d : Dot} {p : Nat} {b : Bool} (hf : Found l d p b) (hd : d ∉ l) (hs : l.Pairwise (fun a b => dotLt a b = true)) : insAt l (p : Int) (d :: []) = insR d l := by
  have hlt : ∀ t (h : t < l.length), p ≤ t → dotLt d l[t] = true := fun t h hp => by
    cases hh : dotLt d l[t] with
    | true => rfl
    | false => exact absurd (by rw [dotLt_tot d l[t] hh (hf.2.2.1 t h hp)]; exact List.getElem_mem h) hd
  have e : insAt l (p : Int) (d :: []) = l.take p ++ d :: l.drop p := rfl
  refine srt_unique ?_ (insR_srt hs hd) fun x => ?_
  · rw [e]
    refine List.pairwise_append.2 ⟨hs.sublist (List.take_sublist _ _), List.pairwise_cons.2 ⟨fun z hz => ?_, hs.sublist (List.drop_sublist _ _)⟩, fun x hx y hy => ?_⟩
    · obtain ⟨t, ht, rfl⟩ := List.getElem_of_mem hz
      rw [List.getElem_drop]
      exact hlt _ (by rw [List.length_drop] at ht; omega) (by omega)
    · obtain ⟨t, ht, rfl⟩ := List.getElem_of_mem hx
      rw [List.getElem_take]
      have ht2 : t < p ∧ t < l.length := by rw [List.length_take] at ht; omega
      have h1 := hf.2.1 t ht2.2 ht2.1
      rcases List.mem_cons.1 hy with rfl | hy
      · exact h1
      · obtain ⟨u, hu, rfl⟩ := List.getElem_of_mem hy
        rw [List.getElem_drop]
        exact srt_get hs ht2.2 (by rw [List.length_drop] at hu; omega) (by omega)
  · rw [e, (insR_perm d l).mem_iff, List.mem_append, List.mem_cons, List.mem_cons]
    have : x ∈ l ↔ x ∈ l.take p ∨ x ∈ l.drop p := by rw [← List.mem_append, List.take_append_drop]
    rw [this]
    exact ⟨fun h => h.elim (fun h => .inr (.inl h)) (fun h => h.elim .inl (fun h => .inr (.inr h))), fun h => h.elim (fun h => .inr (.inl h)) (fun h => h.elim .inl (fun h => .inr (.inr h)))⟩
/-- The set with a dot more. -/
def putD (s : DSet) (d : Dot) : DSet := if memB s d = true ∨ rightD d = false then s else mk s.1 (insR d s.2)
theorem insR_weak {d : Dot} {l : List Dot} (hs : l.Pairwise (fun a b => dotLt a b = true)) (hd : d ∉ l) : (insR d l).Pairwise (fun a b => dotLt b a = false) := (insR_srt hs hd).imp dotLt_asym
theorem putD_can {s : DSet} (hs : Can s) (d : Dot) : Can (putD s d) ∧ (∀ x, Mem (putD s d) x ↔ Mem s x ∨ (rightD d = true ∧ x = d)) ∧ (putD s d).2.length ≤ s.2.length + 1 := by
  unfold putD
  by_cases h : memB s d = true ∨ rightD d = false
  · rw [if_pos h]
    refine ⟨hs, fun x => ⟨.inl, fun hh => hh.elim id fun ⟨h1, h2⟩ => ?_⟩, by omega⟩
    subst h2
    rcases h with h | h
    · exact (memB_iff s x).1 h
    · rw [h] at h1; cases h1
  · rw [if_neg h]
    have h1 : ¬ Mem s d := fun hm => h (.inl ((memB_iff s d).2 hm))
    have h2 : rightD d = true := by cases hh : rightD d with
      | true => rfl
      | false => exact absurd (.inr hh) h
    have hn : d ∉ s.2 := fun hd => h1 ⟨h2, .inr hd⟩
    obtain ⟨q1, q2, q3, _⟩ := mk_can hs.vok (insR d s.2) (fun e he => by
      rcases List.mem_cons.1 ((insR_perm d s.2).mem_iff.1 he) with rfl | he
      · exact h2
      · exact hs.rt e he) (insR_weak hs.srt hn)
    refine ⟨q1, fun x => ?_, by rw [(insR_perm d s.2).length_eq] at q3; simpa using q3⟩
    rw [q2, (insR_perm d s.2).mem_iff, List.mem_cons]
    constructor
    · rintro ⟨a, b | b | b⟩
      · exact .inl ⟨a, .inl b⟩
      · exact .inr ⟨h2, b⟩
      · exact .inl ⟨a, .inr b⟩
    · rintro (⟨a, b⟩ | ⟨a, b⟩)
      · exact ⟨a, b.imp id .inr⟩
      · exact ⟨by rw [b]; exact a, .inr (.inl b)⟩
theorem put_is (k : Nat) (s : DSet) (d : Dot) (h3 : 3 ≤ k) (hl : s.2.length + 1 < k) (hk : k < 1000000) (hs : Can s) : dots_Put.f k s d = some (putD s d) := by
  rw [dots_Put.f_eq, right_is, has_is k s d h3 (by omega) hk hs]
  simp only [bnd]
  unfold putD
  cases h : rightD d with
  | false => simp [bnot, br_true]
  | true =>
    cases hm : memB s d with
    | true => simp [bnot, br_true, br_false]
    | false =>
      have hn : d ∉ s.2 := fun hd => by
        have := (memB_iff s d).2 ⟨h, .inr hd⟩
        rw [hm] at this; cases this
      obtain ⟨p, b, hf, he⟩ := bs_is k s.2 d h3 (by omega) hk hs.srt
      rw [he]
      dsimp only
      have e1 : room ([] : List Int) s.2 = true := by simp [room]; omega
      have e2 : inS 0 (p : Int) (ilen s.2) = true := by have := hf.1; simp [inS, ilen]; omega
      have hb0 : bnot true = false := rfl
      rw [e1, e2, room1 (by omega), insAt_is hf hn hs.srt, hb0]
      simp only [br_true, br_false]
      rw [made_is k _ (by rw [(insR_perm d s.2).length_eq]; simpa using hl) hk (fun e he => by
        rcases List.mem_cons.1 ((insR_perm d s.2).mem_iff.1 he) with rfl | he
        · exact h
        · exact hs.rt e he) (insR_weak hs.srt hn) _ hs.vok]
      simp
end Go.Proofs.Ytennedlpmacicaa
