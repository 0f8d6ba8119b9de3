/- The statement of the law SealReads: for every input the law returns true, and its arguments read as they did. No conditions. -/
import Derived.KernelRfl
import Derived.Test.YtoikjekpckhgeaaGreatRows
import Derived.WalkKit
import Derived.ProofKit
import Derived.OpenShut
import Derived.ShutString
import Derived.ChangeOld
import Derived.Below
import Derived.Test.YtoikjekpckhgeaaGreatFw1
import Derived.Test.YtoikjekpckhgeaaGreatFw2
import Derived.Test.YtoikjekpckhgeaaGreatFw3
import Derived.Test.YtoikjekpckhgeaaGreatSealReads1
import Derived.Test.YtoikjekpckhgeaaGreatSealReads2
import Derived.Test.YtoikjekpckhgeaaGreatSealReads3
set_option linter.unusedVariables false
set_option linter.unusedSimpArgs false
set_option linter.unusedSectionVars false
section
/- Compacted states: plain facts. -/
set_option linter.unusedVariables false
set_option linter.unusedSimpArgs false
namespace Go.Proofs.YtoikjekpckhgeaaGreat
open Pal
theorem turned_mem {T : Nat → Op → Bool} : ∀ {l : List Op} {i : Nat} {o : Op}, o ∈ turned T i l → o = zeroOp ∧ anyT T i l = true ∨ o ∈ l
  | [], i, o, h => by simp [turned] at h
  | a :: r, i, o, h => by
    simp only [turned, List.mem_cons] at h
    simp only [anyT]
    rcases h with h | h
    · cases ht : T i a with
      | true => rw [ht, if_pos rfl] at h; exact .inl ⟨h, by simp⟩
      | false => rw [ht, if_neg (by simp)] at h; exact .inr (by rw [h]; simp)
    · rcases turned_mem h with ⟨h1, h2⟩ | h1
      · exact .inl ⟨h1, by rw [h2]; simp⟩
      · exact .inr (List.mem_cons_of_mem _ h1)
theorem turned_any (q : Op → Bool) (hz : q zeroOp = false) (T : Nat → Op → Bool) (hT : ∀ i o, T i o = true → q o = false) : ∀ (l : List Op) (i : Nat), (turned T i l).any q = l.any q
  | [], i => rfl
  | o :: r, i => by
    simp only [turned, List.any_cons, turned_any q hz T hT r (i + 1)]
    cases ht : T i o with
    | true => rw [if_pos rfl, hz, hT i o ht]
    | false => rw [if_neg (by simp)]
theorem turned_twice (T : Nat → Op → Bool) (hz : ∀ i, T i zeroOp = false) : ∀ (l : List Op) (i : Nat), turned T i (turned T i l) = turned T i l ∧ anyT T i (turned T i l) = false
  | [], i => ⟨rfl, rfl⟩
  | o :: r, i => by
    obtain ⟨h1, h2⟩ := turned_twice T hz r (i + 1)
    simp only [turned, anyT, h1, h2, Bool.or_false]
    cases ht : T i o with
    | true => rw [if_pos rfl, hz]; simp
    | false => exact ⟨by simp [ht], by simpa using ht⟩
theorem findT_map (f : Txn → Txn) (hf : ∀ t, (f t).1 = t.1) : ∀ (l : List Txn) (d : Dot), findT (l.map f) d = (findT l d).map f
  | [], d => rfl
  | t :: l, d => by
    rw [List.map_cons, findT, findT, hf]
    by_cases e : t.1 = d
    · rw [if_pos e, if_pos e]; rfl
    · rw [if_neg e, if_neg e]; exact findT_map f hf l d
theorem canT_map {f : Txn → Txn} (hf : ∀ t, (f t).1 = t.1) {l : List Txn} (h : CanT l) : CanT (l.map f) :=
  ⟨fun t ht => by obtain ⟨u, hu, rfl⟩ := List.mem_map.1 ht; rw [hf]; exact h.rt u hu, by
    rw [List.pairwise_map]; exact h.srt.imp fun h => by rw [hf, hf]; exact h⟩
theorem mapS_can {f : Txn → Txn} (hf : ∀ t, (f t).1 = t.1) {s : Sta} (h : CanS s) : CanS (s.1.map f, s.2) :=
  ⟨canT_map hf h.tx, h.un, h.kn, h.se, fun x => by
    show Mem s.2.2.1 x ↔ ∃ t ∈ s.1.map f, t.1 = x
    rw [h.know, ← findT_is, ← findT_is, findT_map f hf]; cases findT s.1 x <;> rfl⟩
theorem mapS_len {f : Txn → Txn} {s : Sta} {n : Nat} (h : LenS n s) : LenS n (s.1.map f, s.2) := ⟨by show (s.1.map f).length ≤ n; rw [List.length_map]; exact h.tx, h.un, h.kn, h.se, h.re⟩
theorem compS_eq (p : Peers) (s : Sta) : compS p s = (s.1.map fun t => compT (turnP p s t.1) t, s.2) := rfl
theorem compS_can {p : Peers} {s : Sta} (h : CanS s) : CanS (compS p s) := mapS_can (f := fun t => compT (turnP p s t.1) t) (fun t => rfl) h
theorem compS_len {p : Peers} {s : Sta} {n : Nat} (h : LenS n s) : LenS n (compS p s) := mapS_len h
theorem compS_find (p : Peers) (s : Sta) (d : Dot) : findT (compS p s).1 d = (findT s.1 d).map fun t => compT (turnP p s t.1) t := findT_map (fun t => compT (turnP p s t.1) t) (fun _ => rfl) s.1 d
theorem compS_final (p : Peers) (s : Sta) (d : Dot) : finalP p (compS p s) d = finalP p s d := by
  unfold finalP
  rw [compS_find]
  cases findT s.1 d <;> rfl
theorem turnP_zero (p : Peers) (s : Sta) (d : Dot) (i : Nat) : turnP p s d i zeroOp = false := by
  unfold turnP turnB
  rw [decide_eq_true rfl]; rfl
theorem turnP_some {p : Peers} {s : Sta} {d : Dot} {i : Nat} {o : Op} (h : turnP p s d i o = true) : (finalP p s d = true ∧ seenU s.2.1 d = false) ∨ (countP p s d = true ∧ coverP p s (d, (i : Int)) = true ∧ o.2.2.2.2 = []) := by
  unfold turnP turnB at h
  simp only [Bool.and_eq_true, Bool.or_eq_true, Bool.not_eq_true'] at h
  rcases h.2 with h | h
  · exact .inl h
  · refine .inr ⟨h.1, h.2.2.1, ?_⟩
    have := h.2.2.2
    rw [ieq_dec, decide_eq_true_iff] at this
    exact List.eq_nil_of_length_eq_zero (by unfold ilen at this; omega)
theorem covO_zero (x : Dot × Int) : covO x zeroOp = false := rfl
theorem compS_cover (p : Peers) (s : Sta) (x : Dot × Int) : coverP p (compS p s) x = coverP p s x := by
  unfold coverP
  show (s.1.map fun t => compT (turnP p s t.1) t).any _ = _
  rw [List.any_map]
  refine congrArg (fun f => s.1.any f) (funext fun t => ?_)
  have e : countP p (compS p s) t.1 = countP p s t.1 := by unfold countP; rw [compS_final]; rfl
  show ((compT (turnP p s t.1) t).2.2.2.2.any (covO x) && countP p (compS p s) t.1) = _
  rw [e]
  cases hc : countP p s t.1 with
  | false => simp
  | true =>
    rw [Bool.and_true, Bool.and_true]
    refine turned_any (covO x) (covO_zero x) _ (fun i o h => ?_) _ 0
    rcases turnP_some h with ⟨h1, h2⟩ | ⟨_, _, h⟩
    · unfold countP at hc; rw [h2] at hc; simp at hc
    · unfold covO; rw [h]; rfl
theorem compS_turn (p : Peers) (s : Sta) (d : Dot) (i : Nat) (o : Op) : turnP p (compS p s) d i o = turnP p s d i o := by
  have e : countP p (compS p s) d = countP p s d := by unfold countP; rw [compS_final]; rfl
  unfold turnP
  rw [compS_cover, compS_final, e]; rfl
theorem compS_twice (p : Peers) (s : Sta) : compS p (compS p s) = compS p s := by
  rw [compS_eq p (compS p s)]
  have : (compS p s).1.map (fun t => compT (turnP p (compS p s) t.1) t) = (compS p s).1 := by
    show (s.1.map fun t => compT (turnP p s t.1) t).map _ = s.1.map _
    rw [List.map_map]
    refine List.map_congr_left fun t _ => ?_
    show compT (turnP p (compS p s) t.1) (compT (turnP p s t.1) t) = compT (turnP p s t.1) t
    rw [show turnP p (compS p s) t.1 = turnP p s t.1 from funext fun i => funext fun o => compS_turn p s t.1 i o]
    obtain ⟨h1, h2⟩ := turned_twice (turnP p s t.1) (turnP_zero p s t.1) t.2.2.2.2 0
    unfold compT
    simp [h1, h2]
  rw [this]
abbrev Itm := (Dot × Int) × (Op × Int)
def addO (o : Op) : Bool := ieq o.1 1 || (ieq o.1 2 || ieq o.1 3)
def coveredU (l : List Txn) (u : List (Dot × Int)) (x : Dot × Int) : Bool := l.any fun t => seenU u t.1 && t.2.2.2.2.any (covO x)
def itemsT (g : Nat → Bool) (d : Dot) (tm : Int) : Nat → List Op → List Itm
  | _, [] => []
  | i, o :: r => (if (addO o && !g i) = true then [((d, (i : Int)), (o, tm))] else []) ++ itemsT g d tm (i + 1) r
def itemsP (l : List Txn) (u : List (Dot × Int)) : List Itm := l.flatMap fun t => if seenU u t.1 = true then itemsT (fun i => coveredU l u (t.1, (i : Int))) t.1 t.2.2.1 0 t.2.2.2.2 else []
theorem addO_zero : addO zeroOp = false := rfl
theorem items_turned (g : Nat → Bool) (d : Dot) (tm : Int) (T : Nat → Op → Bool) : ∀ (l : List Op) (i : Nat), (∀ j o, T j o = true → g j = true) → itemsT g d tm i (turned T i l) = itemsT g d tm i l
  | [], i, _ => rfl
  | o :: r, i, h => by
    simp only [turned, itemsT, items_turned g d tm T r (i + 1) h]
    cases ht : T i o with
    | true => rw [if_pos rfl, addO_zero, h i o ht]; simp
    | false => simp
theorem items_comp (l : List Txn) (u : List (Dot × Int)) (T : Dot → Nat → Op → Bool) (h : ∀ t ∈ l, ∀ i o, T t.1 i o = true → seenU u t.1 = true → o.2.2.2.2 = [] ∧ coveredU l u (t.1, (i : Int)) = true) :
    itemsP (l.map fun t => compT (T t.1) t) u = itemsP l u := by
  have hc : ∀ x, coveredU (l.map fun t => compT (T t.1) t) u x = coveredU l u x := by
    intro x
    unfold coveredU
    rw [List.any_map]
    rw [Bool.eq_iff_iff, List.any_eq_true, List.any_eq_true]
    have e : ∀ t ∈ l, (seenU u t.1 && (compT (T t.1) t).2.2.2.2.any (covO x)) = (seenU u t.1 && t.2.2.2.2.any (covO x)) := by
      intro t ht
      cases hs : seenU u t.1 with
      | false => rfl
      | true =>
        rw [Bool.true_and, Bool.true_and]
        refine turned_any (covO x) (covO_zero x) _ (fun i o hh => ?_) _ 0
        unfold covO; rw [(h t ht i o hh hs).1]; rfl
    exact ⟨fun ⟨t, ht, hh⟩ => ⟨t, ht, (e t ht).symm.trans hh⟩, fun ⟨t, ht, hh⟩ => ⟨t, ht, (e t ht).trans hh⟩⟩
  unfold itemsP
  rw [List.flatMap_map]
  rw [List.flatMap_def, List.flatMap_def]
  refine congrArg List.flatten (List.map_congr_left fun t ht => ?_)
  show (if seenU u t.1 = true then itemsT (fun i => coveredU (l.map fun t => compT (T t.1) t) u (t.1, (i : Int))) t.1 t.2.2.1 0 (turned (T t.1) 0 t.2.2.2.2) else []) = _
  cases hs : seenU u t.1 with
  | false => rfl
  | true =>
    rw [if_pos rfl, if_pos rfl]
    simp only [hc]
    exact items_turned _ _ _ _ _ _ fun j o hh => (h t ht j o hh hs).2
theorem cover_seen {p : Peers} {s : Sta} {x : Dot × Int} (h : coverP p s x = true) : coveredU s.1 s.2.1 x = true := by
  unfold coverP at h
  obtain ⟨t, ht, hh⟩ := List.any_eq_true.1 h
  unfold countP at hh
  simp only [Bool.and_eq_true] at hh
  exact List.any_eq_true.2 ⟨t, ht, by rw [hh.2.2, hh.1]; rfl⟩
theorem comp_items (p : Peers) (s : Sta) : itemsP (compS p s).1 s.2.1 = itemsP s.1 s.2.1 := by
  refine items_comp s.1 s.2.1 (turnP p s) fun t ht i o h hs => ?_
  rcases turnP_some h with ⟨h1, h2⟩ | ⟨_, h2, h3⟩
  · rw [hs] at h2; cases h2
  · exact ⟨h3, cover_seen h2⟩
end Go.Proofs.YtoikjekpckhgeaaGreat
end
section
/- What can be sealed, and what is heard more: plain facts. -/
set_option linter.unusedVariables false
set_option linter.unusedSimpArgs false
namespace Go.Proofs.YtoikjekpckhgeaaGreat
open Pal
end Go.Proofs.YtoikjekpckhgeaaGreat
end
section
/- What all replicas have, and what nobody needs any more: the program's answer and the document's. -/
set_option linter.unusedVariables false
set_option linter.unusedSimpArgs false
namespace Go.Proofs.YtoikjekpckhgeaaGreat
open Pal
section
variable (z1 : List Txn) (z2 : List (Dot × Int)) (z3 : List Int) (z4 : List Dot) (z5 : List Int) (z6 : List Dot) (z7 : List (List Dot))
end
end Go.Proofs.YtoikjekpckhgeaaGreat
end
section
/- What is begun with in chapter 30; a compacted state may be. -/
set_option linter.unusedVariables false
set_option linter.unusedSimpArgs false
namespace Go.Proofs.YtoikjekpckhgeaaGreat
open Pal
theorem u8_rng30 {a : Int} (h : Fits (.int .u8) a) : 0 ≤ a ∧ a < 256 := by
  have h : (decide (IntKind.min .u8 ≤ a) && decide (a ≤ IntKind.max .u8)) = true := h
  rw [Bool.and_eq_true, decide_eq_true_eq, decide_eq_true_eq] at h
  have h1 : IntKind.min .u8 = 0 := rfl
  have h2 : IntKind.max .u8 = 255 := rfl
  omega
theorem new30_is (k : Nat) (i n : Int) (h0 : 0 ≤ i) (h1 : i < n) (h2 : n ≤ 16) : peer_New.f k i n = some (0, (i, (n, zarr 16 emptyK))) := by
  have e1 : ilt n 1 = false := decide_eq_false (by omega)
  have e2 : ilt 16 n = false := decide_eq_false (by omega)
  have e3 : ilt i 0 = false := decide_eq_false (by omega)
  have e4 : ile n i = false := decide_eq_false (by omega)
  rw [peer_New.f_eq, e1, e2, e3, e4]; rfl
theorem begun30_l (k : Nat) (hk : 5000 < k) (hk2 : k < 1000000) (l : List Know) (fl : ∀ x ∈ l, Fits tKnow x) (hl : l.length ≤ 16) : ∀ (q i : Nat) (p : Peers), i ≤ l.length → l.length < q + i → OKP (100 * i) p →
    ∃ (b : Bool) (p' : Peers), law30_begun.l8 k q l (i : Int) p p = some (b, (p', p')) ∧ OKP 1600 p'
  | 0, i, p, h, h', _ => by omega
  | q + 1, i, p, h, h', hp => by
    have bt : bnot true = false := rfl
    have bf : bnot false = true := rfl
    rw [law30_begun.l8_eq, ilt_nat]
    by_cases hi : i < l.length
    · have e3 : iadd .i64 (i : Int) 1 = ((i + 1 : Nat) : Int) := iadd_nat (by omega)
      have fx := fl _ (List.getElem_mem hi)
      obtain ⟨c, g1, g2⟩ := goodK_is k l[i] fx hk hk2
      rw [decide_eq_true hi, br_true, inL_nat, decide_eq_true hi, natOf_nat, rd_at' (e := tKnow) hi, g1, e3]
      simp only [br_true, bnd_some]
      cases c with
      | false => rw [bf, br_true]; exact ⟨false, p, rfl, hp.mono (by omega)⟩
      | true =>
        obtain ⟨ck, lk⟩ := g2 rfl
        obtain ⟨e, p1, h1, h2, h3, _⟩ := heard_both k hp (i : Int) l[i] fx.1.1.1 fx.2.2.1.1 lk (by omega) hk hk2
        rw [bt, br_false, h1, h2]
        simp only [bnd_some]
        exact begun30_l k hk hk2 l fl hl q (i + 1) p1 (by omega) (by omega) (h3.mono (by omega))
    · rw [decide_eq_false hi, br_false]
      exact ⟨true, p, rfl, hp.mono (by omega)⟩
theorem begun30_is (k : Nat) (hk : 5000 < k) (hk2 : k < 1000000) (a0 a1 : Int) (f0 : 0 ≤ a0 ∧ a0 < 256) (f1 : 0 ≤ a1 ∧ a1 < 256) (l : List Know) (fl : ∀ x ∈ l, Fits tKnow x) :
    ∃ (b : Bool) (p : Peers), law30_begun.f k a0 a1 l = some (b, (p, p)) ∧ OKP 1600 p := by
  rw [law30_begun.f_eq]
  have e1 : irem a1 16 = a1 % 16 := Int.tmod_eq_emod_of_nonneg f1.1
  have e2 : iwrap .i64 (a1 % 16) = a1 % 16 := wrap_i64 (by omega) (by omega)
  have e3 : iadd .i64 1 (a1 % 16) = 1 + a1 % 16 := iadd_s (by omega) (by omega) (by omega) (by omega)
  have e4 : iwrap .i64 a0 = a0 := wrap_i64 (by omega) (by omega)
  have e5 : irem a0 (1 + a1 % 16) = a0 % (1 + a1 % 16) := Int.tmod_eq_emod_of_nonneg f0.1
  rw [e1, e2, e3, e4, e5]
  obtain ⟨N, hN⟩ : ∃ N, N = 1 + a1 % 16 := ⟨_, rfl⟩
  have n1 : 1 ≤ N := by omega
  have n2 : N ≤ 16 := by omega
  rw [← hN]
  have m0 : 0 ≤ a0 % N := Int.emod_nonneg _ (by omega)
  have m1 : a0 % N < N := Int.emod_lt_of_pos _ (by omega)
  have z : ieq N 0 = false := by rw [ieq_dec]; exact decide_eq_false (by omega)
  have okp : ∀ m, OKP m (a0 % N, (N, zarr 16 emptyK)) := fun m => ⟨n2, rfl, fun x hx => by
    have : x = emptyK := List.eq_of_mem_replicate hx
    rw [this]; exact ⟨emptyK_can, emptyK_len m⟩⟩
  rw [z, br_false, new30_is k _ N m0 m1 n2, bnd_some, show ilt 16 (ilen l) = decide (16 < l.length) from ilt_lenR 16 l]
  by_cases h16 : 16 < l.length
  · rw [decide_eq_true h16, br_true]
    exact ⟨false, _, rfl, okp 1600⟩
  · rw [decide_eq_false h16, br_false]
    exact begun30_l k hk hk2 l fl (by omega) k 0 _ (by omega) (by omega) (okp (100 * 0))
theorem shortO_zero : ShortO zeroOp := ⟨⟨by decide, fun s hs => by cases hs⟩, by decide, by decide⟩
theorem compT_short {T : Nat → Op → Bool} {t : Txn} (ht : ShortT t) : ShortT (compT T t) :=
  ⟨by show (turned T 0 t.2.2.2.2).length ≤ 20; rw [turned_len]; exact ht.len, fun o ho => by
    rcases turned_mem (show o ∈ turned T 0 t.2.2.2.2 from ho) with ⟨h, _⟩ | h
    · rw [h]; exact shortO_zero
    · exact ht.ops o h⟩
theorem compS_short {p : Peers} {s : Sta} (hsh : ∀ t ∈ s.1, ShortT t) : ∀ t ∈ (compS p s).1, ShortT t := by
  intro t ht
  obtain ⟨u, hu, rfl⟩ := List.mem_map.1 ht
  exact compT_short (hsh u hu)
theorem lens_of {s : Sta} (hsh : ∀ t ∈ s.1, ShortT t) {k : Nat} (hk : 1000 < k) : ∀ t ∈ s.1, t.2.2.2.2.length < k ∧ ∀ o ∈ t.2.2.2.2, o.2.2.2.2.length < k := by
  intro t ht
  have h := hsh t ht
  exact ⟨by have := h.len; omega, fun o ho => by have := (h.ops o ho).seen; omega⟩
end Go.Proofs.YtoikjekpckhgeaaGreat
end
section
/- Operations that count: the program's answer. -/
set_option linter.unusedVariables false
set_option linter.unusedSimpArgs false
namespace Go.Proofs.YtoikjekpckhgeaaGreat
open Pal
section
variable (k : Nat) (u : List (Dot × Int)) (l : List Txn)
theorem lcov_refs (n3 n7 : Nat) (x15 x26 x27 : Int) (x25 : List Op) (r : List (Dot × Int)) (hl : r.length < k) (hk2 : k < 1000000) :
    ∀ (q j : Nat) (m : List ((Dot × Int) × Bool)) (B : Dot × Int → Bool), j ≤ r.length → r.length < q + j → (∀ x, mget tUndo .bool m x = B x) →
      ∃ m', live_covered.l10 k n3 n7 q u l (ilen l) x15 x25 x26 x27 r (ilen r) (j : Int) m = live_covered.l7 k n3 n7 u l (ilen l) x15 x25 x26 (iadd .i64 x27 1) m' ∧ ∀ x, mget tUndo .bool m' x = (B x || (r.drop j).any (isR x)) := by
  intro q
  induction q with
  | zero => intro j m B h h' _; omega
  | succ q ih =>
    intro j m B h h' hB
    rw [live_covered.l10_eq, ilt_nat]
    by_cases hj : j < r.length
    · have e3 : iadd .i64 (j : Int) 1 = ((j + 1 : Nat) : Int) := iadd_nat (by omega)
      rw [decide_eq_true hj, br_true, inL_nat, decide_eq_true hj, br_true, natOf_nat, e3, rd_at' (e := tUndo) hj]
      obtain ⟨m', g1, g2⟩ := ih (j + 1) (mput tUndo .bool m r[j] true) (fun x => if x = r[j] then true else B x) (by omega) (by omega) (fun x => by rw [putRef, hB])
      refine ⟨m', g1, fun x => ?_⟩
      rw [g2, any_step hj]
      by_cases e : r[j] = x
      · subst e; simp [isR]
      · rw [if_neg (Ne.symm e)]; simp [isR, e]
    · rw [decide_eq_false hj, br_false, List.drop_eq_nil_of_le (by omega)]
      exact ⟨m, rfl, fun x => by rw [hB]; simp⟩
theorem lcov_ops (n3 : Nat) (x15 : Int) (o : List Op) (hl : o.length < k) (hr : ∀ a ∈ o, a.2.2.2.2.length < k) (hk2 : k < 1000000) :
    ∀ (q j : Nat) (m : List ((Dot × Int) × Bool)) (B : Dot × Int → Bool), j ≤ o.length → o.length < q + j → (∀ x, mget tUndo .bool m x = B x) →
      ∃ m', live_covered.l7 k n3 q u l (ilen l) x15 o (ilen o) (j : Int) m = live_covered.l3 k n3 u l (ilen l) (iadd .i64 x15 1) m' ∧ ∀ x, mget tUndo .bool m' x = (B x || (o.drop j).any (covO x)) := by
  intro q
  induction q with
  | zero => intro j m B h h' _; omega
  | succ q ih =>
    intro j m B h h' hB
    rw [live_covered.l7_eq, ilt_nat]
    by_cases hj : j < o.length
    · have e3 : iadd .i64 (j : Int) 1 = ((j + 1 : Nat) : Int) := iadd_nat (by omega)
      rw [decide_eq_true hj, br_true, inL_nat, decide_eq_true hj, br_true, natOf_nat, rd_at' (e := tOp) hj]
      obtain ⟨c1, g1, g2⟩ := lcov_refs k u l n3 q x15 (ilen o) (j : Int) o o[j].2.2.2.2 (hr _ (List.getElem_mem hj)) hk2 k 0 m B (by omega) (by have := hr _ (List.getElem_mem hj); omega) hB
      rw [show ((0 : Nat) : Int) = 0 from rfl] at g1
      rw [g1, e3]
      obtain ⟨c2, g3, g4⟩ := ih (j + 1) c1 _ (by omega) (by omega) g2
      refine ⟨c2, g3, fun x => ?_⟩
      rw [g4, any_step hj, List.drop_zero]
      show ((B x || covO x o[j]) || _) = _
      rw [Bool.or_assoc]
    · rw [decide_eq_false hj, br_false, List.drop_eq_nil_of_le (by omega)]
      exact ⟨m, rfl, fun x => by rw [hB]; simp⟩
def covU (u : List (Dot × Int)) (x : Dot × Int) (t : Txn) : Bool := seenU u t.1 && t.2.2.2.2.any (covO x)
theorem lcov_txns (hu : CanU u) (hul : u.length < k) (h3 : 3 ≤ k) (hl : l.length < k) (ho : ∀ t ∈ l, t.2.2.2.2.length < k ∧ ∀ o ∈ t.2.2.2.2, o.2.2.2.2.length < k) (hk2 : k < 1000000) :
    ∀ (q i : Nat) (m : List ((Dot × Int) × Bool)) (B : Dot × Int → Bool), i ≤ l.length → l.length < q + i → (∀ x, mget tUndo .bool m x = B x) →
      ∃ m', live_covered.l3 k q u l (ilen l) (i : Int) m = some ((), m') ∧ ∀ x, mget tUndo .bool m' x = (B x || (l.drop i).any (covU u x)) := by
  intro q
  induction q with
  | zero => intro i m B h h' _; omega
  | succ q ih =>
    intro i m B h h' hB
    rw [live_covered.l3_eq, ilt_nat]
    by_cases hi : i < l.length
    · have e3 : iadd .i64 (i : Int) 1 = ((i + 1 : Nat) : Int) := iadd_nat (by omega)
      obtain ⟨o1, o2⟩ := ho _ (List.getElem_mem hi)
      rw [decide_eq_true hi, br_true, inL_nat, decide_eq_true hi, br_true, natOf_nat, rd_at' (e := tTxn) hi, tseen_is k u _ h3 hul hk2 hu, bnd_some]
      cases hs : seenU u l[i].1 with
      | false =>
        rw [show bnot false = true from rfl, br_true, e3]
        obtain ⟨c2, g3, g4⟩ := ih (i + 1) m B (by omega) (by omega) hB
        refine ⟨c2, g3, fun x => ?_⟩
        rw [g4, any_step hi]
        unfold covU
        rw [hs]; simp
      | true =>
        rw [show bnot true = false from rfl, br_false]
        obtain ⟨c1, g1, g2⟩ := lcov_ops k u l q (i : Int) l[i].2.2.2.2 o1 o2 hk2 k 0 m B (by omega) (by omega) hB
        rw [show ((0 : Nat) : Int) = 0 from rfl] at g1
        rw [g1, e3]
        obtain ⟨c2, g3, g4⟩ := ih (i + 1) c1 _ (by omega) (by omega) g2
        refine ⟨c2, g3, fun x => ?_⟩
        rw [g4, any_step hi, List.drop_zero, Bool.or_assoc]
        show (B x || (_ || _)) = (B x || ((seenU u l[i].1 && _) || _))
        rw [hs, Bool.true_and]
    · rw [decide_eq_false hi, br_false, List.drop_eq_nil_of_le (by omega)]
      exact ⟨m, rfl, fun x => by rw [hB]; simp⟩
theorem lcovered_is (hu : CanU u) (hul : u.length < k) (h3 : 3 ≤ k) (hl : l.length < k) (ho : ∀ t ∈ l, t.2.2.2.2.length < k ∧ ∀ o ∈ t.2.2.2.2, o.2.2.2.2.length < k) (hk2 : k < 1000000) :
    ∃ m, live_covered.f k l u = some ((), m) ∧ ∀ x, mget tUndo .bool m x = coveredU l u x := by
  obtain ⟨m, g1, g2⟩ := lcov_txns k u l hu hul h3 hl ho hk2 k 0 [] (fun _ => false) (by omega) (by omega) (fun _ => rfl)
  refine ⟨m, by rw [live_covered.f_eq]; exact g1, fun x => ?_⟩
  rw [g2, List.drop_zero, Bool.false_or]; rfl
theorem all_in (n4 i : Nat) (hi : i < 1000) (t : Txn) (m : List ((Dot × Int) × Bool)) (g : Nat → Bool) (hg : ∀ j : Nat, mget tUndo .bool m (t.1, (j : Int)) = g j) (hl : t.2.2.2.2.length ≤ 20) (hk : 20 < k) :
    ∀ (q j : Nat) (x : List Itm), j ≤ t.2.2.2.2.length → t.2.2.2.2.length < q + j → x.length ≤ 20 * i + j →
      ∃ x', live_All.l8 k n4 q u x l (ilen l) (i : Int) t.2.2.2.2 (ilen t.2.2.2.2) (j : Int) t m = live_All.l4 k n4 u x' l (ilen l) (iadd .i64 (i : Int) 1) m ∧ x' = x ++ itemsT g t.1 t.2.2.1 j (t.2.2.2.2.drop j) ∧ x'.length ≤ 20 * i + t.2.2.2.2.length := by
  intro q
  induction q with
  | zero => intro j x h h' _; omega
  | succ q ih =>
    intro j x h h' hx
    rw [live_All.l8_eq, ilt_nat]
    by_cases hj : j < t.2.2.2.2.length
    · have e3 : iadd .i64 (j : Int) 1 = ((j + 1 : Nat) : Int) := iadd_nat (by omega)
      obtain ⟨y0, a1, a2, a3⟩ := ih (j + 1) x (by omega) (by omega) (by omega)
      obtain ⟨y1, b1, b2, b3⟩ := ih (j + 1) (app x (((t.1, (j : Int)), (t.2.2.2.2[j], t.2.2.1)) :: [])) (by omega) (by omega) (by simp [app]; omega)
      rw [List.drop_eq_getElem_cons hj]
      have hadd : addO t.2.2.2.2[j] = (ieq t.2.2.2.2[j].1 1 || (ieq t.2.2.2.2[j].1 2 || ieq t.2.2.2.2[j].1 3)) := rfl
      simp only [itemsT]
      rw [hadd]
      rw [decide_eq_true hj, br_true, inL_nat, decide_eq_true hj, br_true, natOf_nat, e3, rd_at' (e := tOp) hj, hg j, room1 (show x.length < 4000000 by omega)]
      simp only [br_true]
      rw [a1, b1]
      cases ieq t.2.2.2.2[j].1 1 <;> cases ieq t.2.2.2.2[j].1 2 <;> cases ieq t.2.2.2.2[j].1 3 <;> cases g j <;>
        first
          | exact ⟨y0, rfl, by rw [a2]; simp, a3⟩
          | exact ⟨y1, rfl, by rw [b2]; simp [app], b3⟩
    · rw [decide_eq_false hj, br_false, List.drop_eq_nil_of_le (by omega)]
      exact ⟨x, rfl, by simp [itemsT], by omega⟩
theorem all_l (hu : CanU u) (hul : u.length < k) (h3 : 3 ≤ k) (hl : l.length < 1000) (hlk : l.length < k) (h20 : ∀ t ∈ l, t.2.2.2.2.length ≤ 20) (hk : 20 < k) (hk2 : k < 1000000) (m : List ((Dot × Int) × Bool)) (hm : ∀ x, mget tUndo .bool m x = coveredU l u x) :
    ∀ (q i : Nat) (x : List Itm), i ≤ l.length → l.length < q + i → x.length ≤ 20 * i →
      live_All.l4 k q u x l (ilen l) (i : Int) m = some (x ++ (l.drop i).flatMap fun t => if seenU u t.1 = true then itemsT (fun i => coveredU l u (t.1, (i : Int))) t.1 t.2.2.1 0 t.2.2.2.2 else []) := by
  intro q
  induction q with
  | zero => intro i x h h' _; omega
  | succ q ih =>
    intro i x h h' hx
    rw [live_All.l4_eq, ilt_nat]
    by_cases hi : i < l.length
    · have e3 : iadd .i64 (i : Int) 1 = ((i + 1 : Nat) : Int) := iadd_nat (by omega)
      rw [List.drop_eq_getElem_cons hi, List.flatMap_cons]
      rw [decide_eq_true hi, br_true, inL_nat, decide_eq_true hi, br_true, natOf_nat, rd_at' (e := tTxn) hi, tseen_is k u _ h3 hul hk2 hu, bnd_some]
      cases hs : seenU u l[i].1 with
      | false =>
        rw [show bnot false = true from rfl, br_true, e3, ih (i + 1) x (by omega) (by omega) (by omega)]
        simp
      | true =>
        have ht := h20 _ (List.getElem_mem hi)
        obtain ⟨y, c1, c2, c3⟩ := all_in k u l q i (by omega) l[i] m (fun j => coveredU l u (l[i].1, (j : Int))) (fun j => hm _) ht hk k 0 x (by omega) (by omega) (by omega)
        rw [show ((0 : Nat) : Int) = 0 from rfl] at c1
        rw [show bnot true = false from rfl, br_false, c1, e3, ih (i + 1) y (by omega) (by omega) (by omega), c2, if_pos rfl, List.drop_zero, List.append_assoc]
    · rw [decide_eq_false hi, br_false, List.drop_eq_nil_of_le (by omega)]; simp
theorem all_is (hu : CanU u) (hul : u.length < k) (hl : l.length < 1000) (hlk : l.length < k) (h20 : ∀ t ∈ l, t.2.2.2.2.length ≤ 20) (ho : ∀ t ∈ l, t.2.2.2.2.length < k ∧ ∀ o ∈ t.2.2.2.2, o.2.2.2.2.length < k) (hk : 20 < k) (hk2 : k < 1000000) :
    live_All.f k l u = some (itemsP l u) := by
  obtain ⟨m, g1, g2⟩ := lcovered_is k u l hu hul (by omega) hlk ho hk2
  rw [live_All.f_eq, g1, bnd_some]
  have := all_l k u l hu hul (by omega) hl hlk h20 hk hk2 m g2 k 0 [] (by omega) (by omega) (by simp)
  rw [List.drop_zero, List.nil_append] at this
  exact this
end
theorem strSame_refl (k : Nat) (a : List Str) (hl : a.length < k) (hk : k < 1000000) : slices_Equal_string_string.f k a a = some true := by
  rw [slices_Equal_string_string.f_eq, ieq_len, decide_eq_true rfl, show bnot true = false from rfl, br_false]
  refine loop_up a.length (fun n i => slices_Equal_string_string.l4 k n a a (ilen a) (i : Int)) (some true) (fun n i hi => ?_) (fun n => ?_) k 0 (by omega) (by omega)
  · simp only [slices_Equal_string_string.l4_eq, ilt_nat, inL_nat, natOf_nat, hi, decide_true, br_true, seq_dec, show bnot true = false from rfl, br_false, iadd_nat (show i < 4611686018427387904 by omega)]
  · simp only [slices_Equal_string_string.l4_eq, ilt_nat, Nat.lt_irrefl, decide_false, br_false]
theorem refSame_refl (k : Nat) (a : List (Dot × Int)) (hl : a.length < k) (hk : k < 1000000) : slices_Equal_api_Ref_api_Ref.f k a a = some true := by
  rw [slices_Equal_api_Ref_api_Ref.f_eq, ieq_len, decide_eq_true rfl, show bnot true = false from rfl, br_false]
  refine loop_up a.length (fun n i => slices_Equal_api_Ref_api_Ref.l4 k n a a (ilen a) (i : Int)) (some true) (fun n i hi => ?_) (fun n => ?_) k 0 (by omega) (by omega)
  · simp only [slices_Equal_api_Ref_api_Ref.l4_eq, ilt_nat, inL_nat, natOf_nat, hi, decide_true, br_true, deqU, show bnot true = false from rfl, br_false, iadd_nat (show i < 4611686018427387904 by omega)]
  · simp only [slices_Equal_api_Ref_api_Ref.l4_eq, ilt_nat, Nat.lt_irrefl, decide_false, br_false]
theorem opSame_refl (k : Nat) (o : Op) (hl : LenO k o) (hk : k < 1000000) : op_Same.f k o o = some true := by
  rw [op_Same.f_eq]
  simp only [ieq_dec, deqVal, decide_true, br_true]
  rw [strSame_refl k _ hl.path hk, bnd_some, br_true, refSame_refl k _ hl.seen hk]; rfl
theorem liveSame_refl (k : Nat) (a : List Itm) (hl : a.length < k) (ho : ∀ x ∈ a, LenO k x.2.1) (hk : k < 1000000) : live_Same.f k a a = some true := by
  have key : slices_EqualFunc_live_Item_live_Item_live_Item_live_Item_live_Same_1.f k a a = some true := by
    rw [slices_EqualFunc_live_Item_live_Item_live_Item_live_Item_live_Same_1.f_eq, ieq_len, decide_eq_true rfl, show bnot true = false from rfl, br_false]
    refine loop_up a.length (fun n i => slices_EqualFunc_live_Item_live_Item_live_Item_live_Item_live_Same_1.l4 k n a a (ilen a) (i : Int)) (some true) (fun n i hi => ?_) (fun n => ?_) k 0 (by omega) (by omega)
    · have h1 : live_Same_1.f k a[i] a[i] = some true := by
        rw [live_Same_1.f_eq]
        simp only [deqU, ieq_dec, decide_true, br_true]
        rw [opSame_refl k _ (ho _ (List.getElem_mem hi)) hk]; rfl
      simp only [slices_EqualFunc_live_Item_live_Item_live_Item_live_Item_live_Same_1.l4_eq, ilt_nat, inL_nat, natOf_nat, hi, decide_true, br_true, rd_at' (e := tItem) hi, h1, bnd_some, show bnot true = false from rfl, br_false, iadd_nat (show i < 4611686018427387904 by omega)]
    · simp only [slices_EqualFunc_live_Item_live_Item_live_Item_live_Item_live_Same_1.l4_eq, ilt_nat, Nat.lt_irrefl, decide_false, br_false]
  rw [live_Same.f_eq, key]; rfl
theorem itemsT_mem {g : Nat → Bool} {d : Dot} {tm : Int} : ∀ {l : List Op} {i : Nat} {x : Itm}, x ∈ itemsT g d tm i l → x.2.1 ∈ l
  | [], i, x, h => by simp [itemsT] at h
  | o :: r, i, x, h => by
    simp only [itemsT, List.mem_append] at h
    rcases h with h | h
    · split at h
      · simp at h; subst h; simp
      · cases h
    · exact List.mem_cons_of_mem _ (itemsT_mem h)
theorem itemsT_len {g : Nat → Bool} {d : Dot} {tm : Int} : ∀ (l : List Op) (i : Nat), (itemsT g d tm i l).length ≤ l.length
  | [], i => Nat.le_refl _
  | o :: r, i => by
    have := itemsT_len (g := g) (d := d) (tm := tm) r (i + 1)
    simp only [itemsT, List.length_append, List.length_cons]
    split <;> simp <;> omega
theorem flat_len {α β : Type} (f : α → List β) (c : Nat) : ∀ (l : List α), (∀ x ∈ l, (f x).length ≤ c) → (l.flatMap f).length ≤ c * l.length
  | [], _ => by simp
  | x :: l, h => by
    have h1 := flat_len f c l (fun y hy => h y (List.mem_cons_of_mem _ hy))
    have h2 := h x (by simp)
    rw [List.flatMap_cons, List.length_append, List.length_cons, Nat.mul_add]; omega
theorem itemsP_len (l : List Txn) (u : List (Dot × Int)) (h20 : ∀ t ∈ l, t.2.2.2.2.length ≤ 20) : (itemsP l u).length ≤ 20 * l.length := by
  unfold itemsP
  refine flat_len _ 20 l fun t ht => ?_
  split
  · exact Nat.le_trans (itemsT_len _ _) (h20 t ht)
  · simp
theorem itemsP_mem {l : List Txn} {u : List (Dot × Int)} {x : Itm} (h : x ∈ itemsP l u) : ∃ t ∈ l, x.2.1 ∈ t.2.2.2.2 := by
  unfold itemsP at h
  obtain ⟨t, ht, hx⟩ := List.mem_flatMap.1 h
  refine ⟨t, ht, ?_⟩
  split at hx
  · exact itemsT_mem hx
  · cases hx
end Go.Proofs.YtoikjekpckhgeaaGreat
end
section
/- Chapter 30's example: it is as it is told. -/
namespace Go.Proofs.YtoikjekpckhgeaaGreat
open Pal
set_option maxRecDepth 100000 in
theorem law30_awake.is (k : Nat) : law30_awake.f (k + 40) = some true := by kernel_rfl
theorem awake30 {k : Nat} (h : 40 ≤ k) : law30_awake.f k = some true := by
  obtain ⟨q, rfl⟩ : ∃ q, k = q + 40 := ⟨k - 40, by omega⟩
  exact law30_awake.is q
end Go.Proofs.YtoikjekpckhgeaaGreat
end
section
/- The plain law of chapter 30: SealReads. -/
set_option linter.unusedVariables false
set_option linter.unusedSimpArgs false
namespace Go.Proofs.YtoikjekpckhgeaaGreat
open Pal
noncomputable def cellsT (l : List Op) : Nat := (l.filter fun o => !decide (o = zeroOp)).length
noncomputable def cellsP : List Txn → Nat
  | [] => 0
  | t :: r => cellsT t.2.2.2.2 + cellsP r
theorem cellsT_cons (o : Op) (r : List Op) : cellsT (o :: r) = (if o = zeroOp then 0 else 1) + cellsT r := by
  unfold cellsT
  rw [List.filter_cons]
  by_cases h : o = zeroOp
  · rw [if_pos h, decide_eq_true h]; simp
  · rw [if_neg h, decide_eq_false h]; simp; omega
theorem cellsT_turned (T : Nat → Op → Bool) : ∀ (l : List Op) (i : Nat), cellsT (turned T i l) ≤ cellsT l
  | [], i => Nat.le_refl _
  | o :: r, i => by
    have := cellsT_turned T r (i + 1)
    simp only [turned]
    rw [cellsT_cons, cellsT_cons]
    cases T i o with
    | true => rw [if_pos rfl, if_pos rfl]; omega
    | false =>
      have e : (if false = true then zeroOp else o) = o := if_neg (by simp)
      rw [e]; omega
theorem cellsP_comp (T : Dot → Nat → Op → Bool) : ∀ (l : List Txn), cellsP (l.map fun t => compT (T t.1) t) ≤ cellsP l
  | [] => Nat.le_refl _
  | t :: r => by
    have := cellsP_comp T r
    simp only [List.map_cons, cellsP]
    have h2 : cellsT (compT (T t.1) t).2.2.2.2 ≤ cellsT t.2.2.2.2 := cellsT_turned (T t.1) t.2.2.2.2 0
    omega
theorem cells_in (k n3 i : Nat) (l : List Txn) (o : List Op) (hl : o.length ≤ 20) (hi : i < 1000) (hk : 20 < k) (hk2 : k < 1000000) : ∀ (q j c : Nat), j ≤ o.length → o.length < q + j → c ≤ 20 * i + j →
    ∃ c' : Nat, state_Cells.l6 k n3 q (c : Int) l (ilen l) (i : Int) o (ilen o) (j : Int) = state_Cells.l3 k n3 (c' : Int) l (ilen l) (iadd .i64 (i : Int) 1) ∧ c' = c + cellsT (o.drop j) ∧ c' ≤ 20 * i + o.length := by
  intro q
  induction q with
  | zero => intro j c h h' _; omega
  | succ q ih =>
    intro j c h h' hc
    rw [state_Cells.l6_eq, ilt_nat]
    by_cases hj : j < o.length
    · have e3 : iadd .i64 (j : Int) 1 = ((j + 1 : Nat) : Int) := iadd_nat (by omega)
      have e4 : iadd .i64 (c : Int) 1 = ((c + 1 : Nat) : Int) := iadd_nat (by omega)
      rw [List.drop_eq_getElem_cons hj, cellsT_cons]
      rw [decide_eq_true hj, br_true, inL_nat, decide_eq_true hj, br_true, natOf_nat, e3, e4, rd_at' (e := tOp) hj, gone_is, bnd_some]
      by_cases hz : o[j] = zeroOp
      · rw [decide_eq_true hz, show bnot true = false from rfl, br_false, if_pos hz]
        obtain ⟨c', g1, g2, g3⟩ := ih (j + 1) c (by omega) (by omega) (by omega)
        exact ⟨c', g1, by omega, g3⟩
      · rw [decide_eq_false hz, show bnot false = true from rfl, br_true, if_neg hz]
        obtain ⟨c', g1, g2, g3⟩ := ih (j + 1) (c + 1) (by omega) (by omega) (by omega)
        exact ⟨c', g1, by omega, g3⟩
    · rw [decide_eq_false hj, br_false, List.drop_eq_nil_of_le (by omega)]
      exact ⟨c, rfl, rfl, by omega⟩
theorem cells_is (k : Nat) (s : Sta) (hl : s.1.length < 1000) (hlk : s.1.length < k) (h20 : ∀ t ∈ s.1, t.2.2.2.2.length ≤ 20) (hk : 20 < k) (hk2 : k < 1000000) : state_Cells.f k s = some ((cellsP s.1 : Nat) : Int) := by
  have key : ∀ (q i c : Nat), i ≤ s.1.length → s.1.length < q + i → c ≤ 20 * i → state_Cells.l3 k q (c : Int) s.1 (ilen s.1) (i : Int) = some ((c + cellsP (s.1.drop i) : Nat) : Int) := by
    intro q
    induction q with
    | zero => intro i c h h' _; omega
    | succ q ih =>
      intro i c h h' hc
      rw [state_Cells.l3_eq, ilt_nat]
      by_cases hi : i < s.1.length
      · have e3 : iadd .i64 (i : Int) 1 = ((i + 1 : Nat) : Int) := iadd_nat (by omega)
        have ht := h20 _ (List.getElem_mem hi)
        obtain ⟨c', g1, g2, g3⟩ := cells_in k q i s.1 s.1[i].2.2.2.2 ht (by omega) hk hk2 k 0 c (by omega) (by omega) (by omega)
        rw [show ((0 : Nat) : Int) = 0 from rfl] at g1
        rw [decide_eq_true hi, br_true, inL_nat, decide_eq_true hi, br_true, natOf_nat, rd_at' (e := tTxn) hi, g1, e3, ih (i + 1) c' (by omega) (by omega) (by omega), List.drop_eq_getElem_cons hi, g2, List.drop_zero]
        simp only [cellsP]
        rw [Nat.add_assoc]
      · rw [decide_eq_false hi, br_false, List.drop_eq_nil_of_le (by omega)]; rfl
  rw [state_Cells.f_eq]
  have := key k 0 0 (by omega) (by omega) (by omega)
  rw [List.drop_zero, Nat.zero_add] at this
  exact this
def timeP (l : List Txn) : Int := l.foldl (fun m t => imax m t.2.2.1) 0
theorem time_is (k : Nat) (s : Sta) (hl : s.1.length < k) (hk2 : k < 1000000) : state_Time.f k s = some (timeP s.1) := by
  have key : ∀ (q i : Nat) (c : Int), i ≤ s.1.length → s.1.length < q + i → state_Time.l3 k q c s.1 (ilen s.1) (i : Int) = some ((s.1.drop i).foldl (fun m t => imax m t.2.2.1) c) := by
    intro q
    induction q with
    | zero => intro i c h h'; omega
    | succ q ih =>
      intro i c h h'
      rw [state_Time.l3_eq, ilt_nat]
      by_cases hi : i < s.1.length
      · have e3 : iadd .i64 (i : Int) 1 = ((i + 1 : Nat) : Int) := iadd_nat (by omega)
        rw [decide_eq_true hi, br_true, inL_nat, decide_eq_true hi, br_true, natOf_nat, rd_at' (e := tTxn) hi, e3, ih (i + 1) _ (by omega) (by omega), List.drop_eq_getElem_cons hi, List.foldl_cons]
      · rw [decide_eq_false hi, br_false, List.drop_eq_nil_of_le (by omega)]; rfl
  rw [state_Time.f_eq]
  exact key k 0 0 (by omega) (by omega)
theorem timeP_comp (p : Peers) (s : Sta) : timeP (compS p s).1 = timeP s.1 := by
  unfold timeP
  show (s.1.map _).foldl _ 0 = _
  rw [List.foldl_map]; rfl
theorem sealReads_at (k : Nat) (hk1 : 5000 < k) (hk2 : k < 1000000) (a0 : Ty.D (.int .u8)) (f0 : Fits (.int .u8) a0) (a1 : Ty.D (.int .u8)) (f1 : Fits (.int .u8) a1) (l : Ty.D (.slc tKnow)) (fl : Fits (.slc tKnow) l) (s : Ty.D tState) (fs : Fits tState s) : law30_SealReads.f k a0 a1 l s = some true := by
  have aw : law30_awake.f k = some true := awake30 (by omega)
  have bt : bnot true = false := rfl
  obtain ⟨b, p, g1, hp⟩ := begun30_is k hk1 hk2 a0 a1 (u8_rng30 f0) (u8_rng30 f1) l fl.2
  rw [law30_SealReads.f_eq, g1, aw]
  simp only [bnd_some]
  cases b with
  | false => rfl
  | true =>
    rw [bt, br_false]
    obtain ⟨c, h1, h2⟩ := goodS_is k s fs hk1 hk2
    rw [h1, bnd_some]
    cases c with
    | false => rfl
    | true =>
      obtain ⟨cs, sh, rs⟩ := h2 rfl
      have ls := sh.len
      have lt := sh.tx
      have ho := lens_of sh.each (k := k) (by omega)
      have f3 : s.2.2.2.2.length = 8 := fs.2.2.2.2.1
      have csh := compS_short (p := p) sh.each
      have clen := compS_len (p := p) ls
      have ccan := compS_can (p := p) cs
      have cho := lens_of csh (k := k) (by omega)
      have clt : (compS p s).1.length = s.1.length := by show (s.1.map _).length = _; rw [List.length_map]
      have hun := ls.un
      rw [bt, br_false, compact_is k hp s cs ls ho (by omega) (by omega) (by omega) hk2, bnd_some]
      show (bnd (state_Items.f k (compS p s)) fun r5 => _) = _
      rw [state_Items.f_eq, state_Items.f_eq, all_is k s.2.1 s.1 cs.un (by omega) (by omega) (by omega) (fun t ht => (sh.each t ht).len) ho (by omega) hk2]
      rw [show live_All.f k (compS p s).1 (compS p s).2.1 = some (itemsP (compS p s).1 s.2.1) from all_is k s.2.1 (compS p s).1 cs.un (by omega) (by omega) (by omega) (fun t ht => (csh t ht).len) cho (by omega) hk2]
      simp only [bnd_some]
      rw [comp_items p s, liveSame_refl k _ (by have := itemsP_len s.1 s.2.1 (fun t ht => (sh.each t ht).len); omega) (fun x hx => by
        obtain ⟨t, ht, hh⟩ := itemsP_mem hx
        exact ((sh.each t ht).lenT (by omega)).each _ hh) hk2, bnd_some, br_true]
      rw [dof_is k (compS p s) clen (by omega), dof_is k s ls (by omega)]
      simp only [bnd_some]
      rw [show ofS (compS p s) = ofS s from rfl, dsame_is k (ofS s) (ofS s) (n := 100) ⟨ls.kn, ls.un, ls.se⟩ (by omega) hk2, decide_eq_true rfl, bnd_some, br_true]
      rw [cells_is k (compS p s) (by omega) (by omega) (fun t ht => (csh t ht).len) (by omega) hk2, cells_is k s (by omega) (by omega) (fun t ht => (sh.each t ht).len) (by omega) hk2]
      simp only [bnd_some]
      have hce : cellsP (compS p s).1 ≤ cellsP s.1 := cellsP_comp (turnP p s) s.1
      rw [show ile ((cellsP (compS p s).1 : Nat) : Int) ((cellsP s.1 : Nat) : Int) = true from decide_eq_true (by omega), br_true]
      rw [time_is k (compS p s) (by omega) hk2, time_is k s (by omega) hk2, timeP_comp]
      simp only [bnd_some]
      rw [show ieq (timeP s.1) (timeP s.1) = true by rw [ieq_dec]; exact decide_eq_true rfl, br_true]
      show (bnd (seal_Compact.f k (compS p s) p) fun r15 => _) = _
      rw [compact_is k hp (compS p s) ccan clen cho (by omega) (by omega) (by omega) hk2, bnd_some, compS_twice]
      obtain ⟨b2, q1, q2⟩ := rsameS_is k (compS p s) (compS p s) clen (fun t ht => (csh t ht).lenT (by omega)) f3 f3 (by omega) (by omega) hk2
      have e2 : b2 = true := q2.2 rfl
      subst e2
      show (bnd (ref22_Same.f k (compS p s) (compS p s)) fun r16 => _) = _
      rw [q1]; rfl
theorem sealReads_true (a0 : Ty.D (.int .u8)) (f0 : Fits (.int .u8) a0) (a1 : Ty.D (.int .u8)) (f1 : Fits (.int .u8) a1) (l : Ty.D (.slc tKnow)) (fl : Fits (.slc tKnow) l) (s : Ty.D tState) (fs : Fits tState s) : ∃ k, law30_SealReads.f k a0 a1 l s = some true :=
  ⟨6000, sealReads_at 6000 (by decide) (by decide) a0 f0 a1 f1 l fl s fs⟩
end Go.Proofs.YtoikjekpckhgeaaGreat
end
section
/- The statement of the law SealReads: for every input the law returns true, and its arguments read as they did. No conditions. -/
namespace Go.Proofs.YtoikjekpckhgeaaGreat.sealReadsDone
open Go.ChangeShapes Go.WideShapes Go.ChangeAt Go.RowKit
open Pal
set_option linter.unusedVariables false

theorem own : ownKnob Tryz.prog.godebug = none := by kernel_rfl
theorem laidOut : laidOutB Tryz.prog = true := by kernel_rfl
theorem ty0 : tyB Tryz.prog 40 5 (.int .u8) = true := by kernel_rfl
theorem ty1 : tyB Tryz.prog 40 5 (.int .u8) = true := by kernel_rfl
theorem ty2 : tyB Tryz.prog 40 77 (.slc tKnow) = true := by kernel_rfl
theorem ty3 : tyB Tryz.prog 40 39 tState = true := by kernel_rfl

theorem walk (W : World) (v0 : Value) (x0 : Ty.D (.int .u8)) (h0 : TRep (gh0 W) W (.dat (.int .u8) x0) v0 []) (f0 : Fits (.int .u8) x0) (v1 : Value) (x1 : Ty.D (.int .u8)) (h1 : TRep (gh0 W) W (.dat (.int .u8) x1) v1 []) (f1 : Fits (.int .u8) x1) (v2 : Value) (x2 : Ty.D (.slc tKnow)) (h2 : TRep (gh0 W) W (.dat (.slc tKnow) x2) v2 []) (f2 : Fits (.slc tKnow) x2) (v3 : Value) (x3 : Ty.D tState) (h3 : TRep (gh0 W) W (.dat tState x3) v3 []) (f3 : Fits tState x3) :
    Calls Tryz.prog 11 #[v0, v1, v2, v3] W fun e w' => e = .returned (.bool true) ∧ Below W.heap.size W w' := by
  obtain ⟨k, hk⟩ := sealReads_true x0 f0 x1 f1 x2 f2 x3 f3
  exact law_calls' (args := [.dat (.int .u8) x0, .dat (.int .u8) x1, .dat (.slc tKnow) x2, .dat tState x3]) (argv := [v0, v1, v2, v3]) (code := law30_SealReads.body) (σ := law30_SealReads.sg) (F := fun x => law30_SealReads.f k x.1 x.2.1 x.2.2.1 x.2.2.2) (x := (x0, x1, x2, x3)) (r := true) (law30_SealReads.ok k) Tryz.func11 (by kernel_rfl) (by kernel_rfl) (by kernel_rfl) (by kernel_rfl) hk rfl rfl
    ⟨v0, _, [], [], rfl, rfl, h0, ⟨v1, _, [], [], rfl, rfl, h1, ⟨v2, _, [], [], rfl, rfl, h2, ⟨v3, _, [], [], rfl, rfl, h3, ⟨rfl, rfl⟩⟩⟩⟩⟩

set_option maxRecDepth 100000 in
theorem lifted (os : Os) (started : os.Started) (H : Type) (enc : TypeId × Value → H) :
    ReturnsInHanded {} Tryz.checked os 11 .any (Rows.sealReadsSpec.pre6 enc Tryz.prog Tryz.f11 Rows.sealReadsRow.domain false) (Rows.sealReadsSpec.post enc Tryz.prog Tryz.f11 false true false false) := by
  refine returnsInHanded_of_change (C := Tryz.checked) own started (by kernel_rfl) Tryz.func11
    (ChangeSpec.witness6 (enc := enc) (C := Tryz.checked) false ⟨#[], #[.int .u8 0, .int .u8 0, .slice none 0 0, .agg #[.slice none 0 0, .slice none 0 0, .int .i64 0, .int .i64 0, .int .i64 0, .int .i64 0, .int .i64 0, .int .i64 0, .int .i64 0, .int .i64 0, .int .i64 0, .int .i64 0, .int .i64 0, .int .i64 0, .int .i64 0, .int .i64 0, .int .i64 0, .int .i64 0, .slice none 0 0, .int .i64 0, .int .i64 0, .int .i64 0, .int .i64 0, .int .i64 0, .int .i64 0, .int .i64 0, .int .i64 0, .int .i64 0, .int .i64 0, .int .i64 0, .int .i64 0, .int .i64 0, .int .i64 0, .int .i64 0, .int .i64 0, .slice none 0 0, .slice none 0 0, .slice none 0 0, .slice none 0 0, .slice none 0 0, .slice none 0 0, .slice none 0 0, .slice none 0 0, .slice none 0 0]], []⟩ 12 (by kernel_rfl) (by kernel_rfl) (by kernel_rfl) (by kernel_rfl)) ?_
  intro W base args ds gs before hval0 hW hcnd _
  have hval : ∀ (j : Nat) t v, Tryz.f11.params[j]? = some t → args[j]? = some v → Value.okWide Tryz.prog W .any base t v := hval0
  have hW' := hW
  obtain ⟨p, q, hA0, hV, rfl, hfz, hnd⟩ := hW
  have hA : DataW.TrodAll enc Tryz.prog W 0 (fun _ => true) true Tryz.f11.params.toList args.toList ds p := hA0
  rw [Tryz.params11] at hA hval
  obtain ⟨v0, vs0, d0, ds0, p0, q0, hargs, rfl, rfl, h0, r0⟩ := trodAll_cons hA
  obtain ⟨v1, vs1, d1, ds1, p1, q1, rfl, rfl, rfl, h1, r1⟩ := trodAll_cons r0
  obtain ⟨v2, vs2, d2, ds2, p2, q2, rfl, rfl, rfl, h2, r2⟩ := trodAll_cons r1
  obtain ⟨v3, vs3, d3, ds3, p3, q3, rfl, rfl, rfl, h3, r3⟩ := trodAll_cons r2
  obtain ⟨rfl, rfl, rfl⟩ := trodAll_nil r3
  obtain rfl : args = #[v0, v1, v2, v3] := by cases args; simp_all
  obtain ⟨rfl, rfl⟩ := trodVars_none hV
  have k0 := h0
  have lt0 : ∀ x ∈ p0, x.block < W.heap.size := by obtain ⟨m, hm⟩ := k0; exact DataW.trod_lt m _ _ _ hm
  obtain ⟨x0, g0, f0⟩ := arg_open ty0 (hval 0 5 v0 rfl rfl) h0
  have k1 := h1
  have lt1 : ∀ x ∈ p1, x.block < W.heap.size := by obtain ⟨m, hm⟩ := k1; exact DataW.trod_lt m _ _ _ hm
  obtain ⟨x1, g1, f1⟩ := arg_open ty1 (hval 1 5 v1 rfl rfl) h1
  have k2 := h2
  have lt2 : ∀ x ∈ p2, x.block < W.heap.size := by obtain ⟨m, hm⟩ := k2; exact DataW.trod_lt m _ _ _ hm
  obtain ⟨x2, g2, f2⟩ := arg_open ty2 (hval 2 77 v2 rfl rfl) h2
  have k3 := h3
  have lt3 : ∀ x ∈ p3, x.block < W.heap.size := by obtain ⟨m, hm⟩ := k3; exact DataW.trod_lt m _ _ _ hm
  obtain ⟨x3, g3, f3⟩ := arg_open ty3 (hval 3 39 v3 rfl rfl) h3
  clear hA0 hval0
  refine (walk W v0 x0 g0 f0 v1 x1 g1 f1 v2 x2 g2 f2 v3 x3 g3 f3).mono fun e W' ⟨he, bel⟩ => ?_
  subst he
  exact ⟨_, rfl, _, _, _, [], _, [], hW', trodAll_mk1 (shut_bool Tryz.underlying4 _), (trodAll_cons_mk (Below.trod laidOut (by kernel_rfl) (of_decide_eq_true (by kernel_rfl)) k0 bel lt0) (trodAll_cons_mk (Below.trod laidOut (by kernel_rfl) (of_decide_eq_true (by kernel_rfl)) k1 bel lt1) (trodAll_cons_mk (Below.trod laidOut (by kernel_rfl) (of_decide_eq_true (by kernel_rfl)) k2 bel lt2) (trodAll_cons_mk (Below.trod laidOut (by kernel_rfl) (of_decide_eq_true (by kernel_rfl)) k3 bel lt3) trodAll_mk0)))), rfl, bel.frame _, fun h => by cases h⟩

theorem over : Rows.sealReadsRow.holds Tryz.pinned (OpenSpec.ofChange Rows.sealReadsSpec) :=
  OpenClaim.holds_of_wide 11 Tryz.f11 rfl rfl rfl rfl rfl rfl rfl ⟨rfl, rfl, rfl, rfl, rfl⟩ rfl rfl rfl rfl rfl (by kernel_rfl) Tryz.func11 (by kernel_rfl)
    (of_decide_eq_true (by kernel_rfl)) (by unfold Func.isWrapper; first | (rw [if_pos (by decide +kernel)]; kernel_rfl) | (rw [if_neg (by decide +kernel)]; exact ⟨rfl, rfl⟩))
    (fun os started H enc _ => lifted os started H enc)

theorem proved : Rows.SealReadsSaid := over
#print axioms proved
end Go.Proofs.YtoikjekpckhgeaaGreat.sealReadsDone
end
