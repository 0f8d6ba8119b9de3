/- The statement of the law SealTells: for every input the law returns true, and its arguments read as they did. No conditions. -/
import Derived.KernelRfl
import Derived.Test.YtoikjekpckhgeaaGreatRows
import Derived.WalkKit
import Derived.ProofKit
import Derived.OpenShut
import Derived.ShutString
import Derived.ChangeOld
import Derived.Below
import Derived.Test.YtoikjekpckhgeaaGreatFw1
import Derived.Test.YtoikjekpckhgeaaGreatFw2
import Derived.Test.YtoikjekpckhgeaaGreatFw3
import Derived.Test.YtoikjekpckhgeaaGreatSealTells1
import Derived.Test.YtoikjekpckhgeaaGreatSealTells2
import Derived.Test.YtoikjekpckhgeaaGreatSealTells3
set_option linter.unusedVariables false
set_option linter.unusedSimpArgs false
set_option linter.unusedSectionVars false
section
/- What is begun with in chapter 30; a compacted state may be. -/
set_option linter.unusedVariables false
set_option linter.unusedSimpArgs false
namespace Go.Proofs.YtoikjekpckhgeaaGreat
open Pal
theorem u8_rng30 {a : Int} (h : Fits (.int .u8) a) : 0 ≤ a ∧ a < 256 := by
  have h : (decide (IntKind.min .u8 ≤ a) && decide (a ≤ IntKind.max .u8)) = true := h
  rw [Bool.and_eq_true, decide_eq_true_eq, decide_eq_true_eq] at h
  have h1 : IntKind.min .u8 = 0 := rfl
  have h2 : IntKind.max .u8 = 255 := rfl
  omega
theorem new30_is (k : Nat) (i n : Int) (h0 : 0 ≤ i) (h1 : i < n) (h2 : n ≤ 16) : peer_New.f k i n = some (0, (i, (n, zarr 16 emptyK))) := by
  have e1 : ilt n 1 = false := decide_eq_false (by omega)
  have e2 : ilt 16 n = false := decide_eq_false (by omega)
  have e3 : ilt i 0 = false := decide_eq_false (by omega)
  have e4 : ile n i = false := decide_eq_false (by omega)
  rw [peer_New.f_eq, e1, e2, e3, e4]; rfl
theorem begun30_l (k : Nat) (hk : 5000 < k) (hk2 : k < 1000000) (l : List Know) (fl : ∀ x ∈ l, Fits tKnow x) (hl : l.length ≤ 16) : ∀ (q i : Nat) (p : Peers), i ≤ l.length → l.length < q + i → OKP (100 * i) p →
    ∃ (b : Bool) (p' : Peers), law30_begun.l8 k q l (i : Int) p p = some (b, (p', p')) ∧ OKP 1600 p'
  | 0, i, p, h, h', _ => by omega
  | q + 1, i, p, h, h', hp => by
    have bt : bnot true = false := rfl
    have bf : bnot false = true := rfl
    rw [law30_begun.l8_eq, ilt_nat]
    by_cases hi : i < l.length
    · have e3 : iadd .i64 (i : Int) 1 = ((i + 1 : Nat) : Int) := iadd_nat (by omega)
      have fx := fl _ (List.getElem_mem hi)
      obtain ⟨c, g1, g2⟩ := goodK_is k l[i] fx hk hk2
      rw [decide_eq_true hi, br_true, inL_nat, decide_eq_true hi, natOf_nat, rd_at' (e := tKnow) hi, g1, e3]
      simp only [br_true, bnd_some]
      cases c with
      | false => rw [bf, br_true]; exact ⟨false, p, rfl, hp.mono (by omega)⟩
      | true =>
        obtain ⟨ck, lk⟩ := g2 rfl
        obtain ⟨e, p1, h1, h2, h3, _⟩ := heard_both k hp (i : Int) l[i] fx.1.1.1 fx.2.2.1.1 lk (by omega) hk hk2
        rw [bt, br_false, h1, h2]
        simp only [bnd_some]
        exact begun30_l k hk hk2 l fl hl q (i + 1) p1 (by omega) (by omega) (h3.mono (by omega))
    · rw [decide_eq_false hi, br_false]
      exact ⟨true, p, rfl, hp.mono (by omega)⟩
theorem begun30_is (k : Nat) (hk : 5000 < k) (hk2 : k < 1000000) (a0 a1 : Int) (f0 : 0 ≤ a0 ∧ a0 < 256) (f1 : 0 ≤ a1 ∧ a1 < 256) (l : List Know) (fl : ∀ x ∈ l, Fits tKnow x) :
    ∃ (b : Bool) (p : Peers), law30_begun.f k a0 a1 l = some (b, (p, p)) ∧ OKP 1600 p := by
  rw [law30_begun.f_eq]
  have e1 : irem a1 16 = a1 % 16 := Int.tmod_eq_emod_of_nonneg f1.1
  have e2 : iwrap .i64 (a1 % 16) = a1 % 16 := wrap_i64 (by omega) (by omega)
  have e3 : iadd .i64 1 (a1 % 16) = 1 + a1 % 16 := iadd_s (by omega) (by omega) (by omega) (by omega)
  have e4 : iwrap .i64 a0 = a0 := wrap_i64 (by omega) (by omega)
  have e5 : irem a0 (1 + a1 % 16) = a0 % (1 + a1 % 16) := Int.tmod_eq_emod_of_nonneg f0.1
  rw [e1, e2, e3, e4, e5]
  obtain ⟨N, hN⟩ : ∃ N, N = 1 + a1 % 16 := ⟨_, rfl⟩
  have n1 : 1 ≤ N := by omega
  have n2 : N ≤ 16 := by omega
  rw [← hN]
  have m0 : 0 ≤ a0 % N := Int.emod_nonneg _ (by omega)
  have m1 : a0 % N < N := Int.emod_lt_of_pos _ (by omega)
  have z : ieq N 0 = false := by rw [ieq_dec]; exact decide_eq_false (by omega)
  have okp : ∀ m, OKP m (a0 % N, (N, zarr 16 emptyK)) := fun m => ⟨n2, rfl, fun x hx => by
    have : x = emptyK := List.eq_of_mem_replicate hx
    rw [this]; exact ⟨emptyK_can, emptyK_len m⟩⟩
  rw [z, br_false, new30_is k _ N m0 m1 n2, bnd_some, show ilt 16 (ilen l) = decide (16 < l.length) from ilt_lenR 16 l]
  by_cases h16 : 16 < l.length
  · rw [decide_eq_true h16, br_true]
    exact ⟨false, _, rfl, okp 1600⟩
  · rw [decide_eq_false h16, br_false]
    exact begun30_l k hk hk2 l fl (by omega) k 0 _ (by omega) (by omega) (okp (100 * 0))
theorem rop_kind {k : Nat} {o : Op} (h : ref11_Check.f k o = some 0) : 1 ≤ o.1 := by
  rw [ref11_Check.f_eq] at h
  by_cases h1 : o.1 < 1
  · rw [show ilt o.1 1 = true from decide_eq_true h1, br_true] at h
    injection h with h; exact absurd h (by decide)
  · omega
def okOp (k : Nat) (thin : Bool) (o : Op) : Prop := ref11_Check.f k o = some 0 ∨ (thin = true ∧ o = zeroOp)
theorem rchk_l (k : Nat) (t : Txn) (ht : ShortT t) (hk : 1000 < k) (hk2 : k < 1000000) : ∀ (q i : Nat), i ≤ t.2.2.2.2.length → t.2.2.2.2.length < q + i →
    ∃ e : Int, ref12_Check.l8 k q (i : Int) t = some e ∧ (e = 0 ↔ ∀ j (h : j < t.2.2.2.2.length), i ≤ j → okOp k t.2.2.2.1 t.2.2.2.2[j])
  | 0, i, h, h' => by omega
  | q + 1, i, h, h' => by
    have hlen := ht.len
    rw [ref12_Check.l8_eq, ilt_nat]
    by_cases hi : i < t.2.2.2.2.length
    · have e3 : iadd .i64 (i : Int) 1 = ((i + 1 : Nat) : Int) := iadd_nat (by omega)
      obtain ⟨c, hc⟩ := rop_tot k t.2.2.2.2[i] (ht.ops _ (List.getElem_mem hi)) hk hk2
      obtain ⟨e, h1, h2⟩ := rchk_l k t ht hk hk2 q (i + 1) (by omega) (by omega)
      have hgo : okOp k t.2.2.2.1 t.2.2.2.2[i] → (e = 0 ↔ ∀ j (h : j < t.2.2.2.2.length), i ≤ j → okOp k t.2.2.2.1 t.2.2.2.2[j]) := fun hok => h2.trans ⟨fun hh j hj hij => by
        by_cases ej : j = i
        · subst ej; exact hok
        · exact hh j hj (by omega), fun hh j hj hij => hh j hj (by omega)⟩
      simp only [hi, decide_true, br_true, inL_nat, natOf_nat, e3, rd_at' (e := tOp) hi, hc, bnd_some, ieq_dec, bnot_dec, br_dec, rgone_is, h1]
      by_cases hz : c = 0
      · rw [if_neg (by simp [hz])]
        exact ⟨e, rfl, hgo (.inl (by rw [hc, hz]))⟩
      · rw [if_pos hz]
        have hne : ¬ ref11_Check.f k t.2.2.2.2[i] = some 0 := fun h => by rw [hc] at h; injection h with h; exact hz h
        cases hth : t.2.2.2.1 with
        | false =>
          rw [br_false, show bnot false = true from rfl, br_true]
          exact ⟨c, rfl, ⟨fun h => absurd h hz, fun hh => by
            rcases hh i hi (Nat.le_refl _) with h | ⟨h, _⟩
            · exact absurd h hne
            · cases h⟩⟩
        | true =>
          rw [br_true]
          by_cases hg : t.2.2.2.2[i] = zeroOp
          · rw [if_neg (by simp [hg])]
            rw [hth] at hgo
            exact ⟨e, rfl, hgo (.inr ⟨rfl, hg⟩)⟩
          · rw [if_pos hg]
            exact ⟨c, rfl, ⟨fun h => absurd h hz, fun hh => by
              rcases hh i hi (Nat.le_refl _) with h | ⟨_, h⟩
              · exact absurd h hne
              · exact absurd h hg⟩⟩
    · rw [decide_eq_false hi, br_false]
      exact ⟨0, rfl, ⟨fun _ j hj hij => by omega, fun _ => rfl⟩⟩
structure HeadOK (t : Txn) : Prop where
  d : rightD t.1 = true
  u0 : ¬ t.2.1 < 0
  u7 : ¬ 7 < t.2.1
  t1 : ¬ t.2.2.1 < 1
  tm : ¬ 1099511627776 < t.2.2.1
  n0 : ¬ t.2.2.2.2.length = 0
  n16 : ¬ 16 < t.2.2.2.2.length
theorem rtxn_chk {k : Nat} {t : Txn} (ht : ShortT t) (hk : 1000 < k) (hk2 : k < 1000000) : ref12_Check.f k t = some 0 ↔ HeadOK t ∧ ∀ j (h : j < t.2.2.2.2.length), okOp k t.2.2.2.1 t.2.2.2.2[j] := by
  obtain ⟨e, h1, h2⟩ := rchk_l k t ht hk hk2 k 0 (by omega) (by have := ht.len; omega)
  rw [ref12_Check.f_eq, rright_is, bnd_some]
  have no : ∀ n : Int, n ≠ 0 → ¬ (some n = some (0 : Int)) := fun n hn h => hn (by injection h)
  have e5 : ieq (ilen t.2.2.2.2) 0 = decide (t.2.2.2.2.length = 0) := ieq0 _
  have e6 : ilt 16 (ilen t.2.2.2.2) = decide (16 < t.2.2.2.2.length) := ilt_lenR 16 _
  rw [e5, e6]
  simp only [ilt_dec, br_dec]
  cases hd : rightD t.1 with
  | false =>
    rw [show bnot false = true from rfl, br_true]
    exact ⟨fun h => absurd h (no 2 (by decide)), fun h => by have := h.1.d; rw [hd] at this; cases this⟩
  | true =>
    rw [show bnot true = false from rfl, br_false]
    by_cases c1 : t.2.1 < 0
    · rw [if_pos c1]; exact ⟨fun h => absurd h (no 2 (by decide)), fun h => absurd c1 h.1.u0⟩
    by_cases c2 : 7 < t.2.1
    · rw [if_neg c1, if_pos c2]; exact ⟨fun h => absurd h (no 2 (by decide)), fun h => absurd c2 h.1.u7⟩
    by_cases c3 : t.2.2.1 < 1
    · rw [if_neg c1, if_neg c2, if_pos c3]; exact ⟨fun h => absurd h (no 2 (by decide)), fun h => absurd c3 h.1.t1⟩
    by_cases c4 : 1099511627776 < t.2.2.1
    · rw [if_neg c1, if_neg c2, if_neg c3, if_pos c4]; exact ⟨fun h => absurd h (no 2 (by decide)), fun h => absurd c4 h.1.tm⟩
    by_cases c5 : t.2.2.2.2.length = 0
    · rw [if_neg c1, if_neg c2, if_neg c3, if_neg c4, if_pos c5]; exact ⟨fun h => absurd h (no 11 (by decide)), fun h => absurd c5 h.1.n0⟩
    by_cases c6 : 16 < t.2.2.2.2.length
    · rw [if_neg c1, if_neg c2, if_neg c3, if_neg c4, if_neg c5, if_pos c6]; exact ⟨fun h => absurd h (no 7 (by decide)), fun h => absurd c6 h.1.n16⟩
    rw [if_neg c1, if_neg c2, if_neg c3, if_neg c4, if_neg c5, if_neg c6]
    rw [show ref12_Check.l8 k k 0 t = some e from h1]
    constructor
    · intro h
      injection h with h
      exact ⟨⟨hd, c1, c2, c3, c4, c5, c6⟩, fun j hj => h2.1 h j hj (by omega)⟩
    · rintro ⟨_, h⟩
      rw [h2.2 fun j hj _ => h j hj]
theorem shortO_zero : ShortO zeroOp := ⟨⟨by decide, fun s hs => by cases hs⟩, by decide, by decide⟩
theorem compT_short {T : Nat → Op → Bool} {t : Txn} (ht : ShortT t) : ShortT (compT T t) :=
  ⟨by show (turned T 0 t.2.2.2.2).length ≤ 20; rw [turned_len]; exact ht.len, fun o ho => by
    rcases turned_mem (show o ∈ turned T 0 t.2.2.2.2 from ho) with ⟨h, _⟩ | h
    · rw [h]; exact shortO_zero
    · exact ht.ops o h⟩
theorem anyT_of {T : Nat → Op → Bool} : ∀ {l : List Op} {i j : Nat} (h : j < l.length), T (i + j) l[j] = true → anyT T i l = true
  | [], i, j, h, _ => by simp at h
  | o :: r, i, 0, h, ht => by simp only [anyT]; rw [show T i o = true from ht]; rfl
  | o :: r, i, j + 1, h, ht => by
    simp only [anyT]
    have := anyT_of (T := T) (l := r) (i := i + 1) (j := j) (by simpa using h) (by
      have e : i + 1 + j = i + (j + 1) := by omega
      rw [e]; simpa using ht)
    rw [this]; simp
theorem compT_chk {k : Nat} {T : Nat → Op → Bool} {t : Txn} (ht : ShortT t) (hk : 1000 < k) (hk2 : k < 1000000) (h : ref12_Check.f k t = some 0) : ref12_Check.f k (compT T t) = some 0 := by
  obtain ⟨hh, ho⟩ := (rtxn_chk ht hk hk2).1 h
  refine (rtxn_chk (compT_short ht) hk hk2).2 ⟨⟨hh.d, hh.u0, hh.u7, hh.t1, hh.tm, ?_, ?_⟩, fun j hj => ?_⟩
  · show ¬ (turned T 0 t.2.2.2.2).length = 0; rw [turned_len]; exact hh.n0
  · show ¬ 16 < (turned T 0 t.2.2.2.2).length; rw [turned_len]; exact hh.n16
  · have hj0 : j < (turned T 0 t.2.2.2.2).length := hj
    have hj' : j < t.2.2.2.2.length := by rw [turned_len] at hj0; exact hj0
    have hg := turned_get T t.2.2.2.2 0 j
    rw [List.getElem?_eq_getElem hj0, List.getElem?_eq_getElem hj', Option.map_some] at hg
    injection hg with hg
    show okOp k (t.2.2.2.1 || anyT T 0 t.2.2.2.2) (turned T 0 t.2.2.2.2)[j]
    rw [hg]
    cases hT : T (0 + j) t.2.2.2.2[j] with
    | true =>
      rw [if_pos rfl]
      refine .inr ⟨?_, rfl⟩
      rw [anyT_of hj' hT]; simp
    | false =>
      rw [if_neg (by simp)]
      rcases ho j hj' with h | ⟨h1, h2⟩
      · exact .inl h
      · exact .inr ⟨by rw [h1]; rfl, h2⟩
theorem kind_of {k : Nat} {s : Sta} (hr : RightS k s) (hsh : ∀ t ∈ s.1, ShortT t) (hk : 1000 < k) (hk2 : k < 1000000) : ∀ t ∈ s.1, ∀ o ∈ t.2.2.2.2, o ≠ zeroOp → 1 ≤ o.1 := by
  intro t ht o ho hz
  obtain ⟨j, hj, rfl⟩ := List.mem_iff_getElem.1 ho
  rcases ((rtxn_chk (hsh t ht) hk hk2).1 (hr.chk t ht)).2 j hj with h | ⟨_, h⟩
  · exact rop_kind h
  · exact absurd h hz
theorem compS_right {k : Nat} {p : Peers} {s : Sta} (hr : RightS k s) (hsh : ∀ t ∈ s.1, ShortT t) (hk : 1000 < k) (hk2 : k < 1000000) : RightS k (compS p s) := by
  refine ⟨by show (s.1.map _).length ≤ 1000; rw [List.length_map]; exact hr.many, ?_, hr.un, hr.se, fun t ht => ?_, hr.redo, hr.kn, ?_⟩
  · show (s.1.map _).Pairwise _
    rw [List.pairwise_map]
    exact hr.ris
  · obtain ⟨u, hu, rfl⟩ := List.mem_map.1 ht
    exact compT_chk (hsh u hu) hk hk2 (hr.chk u hu)
  · show s.2.2.1 = (dotsOf (s.1.map _)).foldl putD emptyD
    rw [hr.know]
    unfold dotsOf
    rw [List.map_map]; rfl
theorem compS_short {p : Peers} {s : Sta} (hsh : ∀ t ∈ s.1, ShortT t) : ∀ t ∈ (compS p s).1, ShortT t := by
  intro t ht
  obtain ⟨u, hu, rfl⟩ := List.mem_map.1 ht
  exact compT_short (hsh u hu)
theorem lens_of {s : Sta} (hsh : ∀ t ∈ s.1, ShortT t) {k : Nat} (hk : 1000 < k) : ∀ t ∈ s.1, t.2.2.2.2.length < k ∧ ∀ o ∈ t.2.2.2.2, o.2.2.2.2.length < k := by
  intro t ht
  have h := hsh t ht
  exact ⟨by have := h.len; omega, fun o ho => by have := (h.ops o ho).seen; omega⟩
end Go.Proofs.YtoikjekpckhgeaaGreat
end
section
/- Chapter 30's example: it is as it is told. -/
namespace Go.Proofs.YtoikjekpckhgeaaGreat
open Pal
set_option maxRecDepth 100000 in
theorem law30_awake.is (k : Nat) : law30_awake.f (k + 40) = some true := by kernel_rfl
theorem awake30 {k : Nat} (h : 40 ≤ k) : law30_awake.f k = some true := by
  obtain ⟨q, rfl⟩ : ∃ q, k = q + 40 := ⟨k - 40, by omega⟩
  exact law30_awake.is q
end Go.Proofs.YtoikjekpckhgeaaGreat
end
section
/- The plain law of chapter 30: SealTells. -/
set_option linter.unusedVariables false
set_option linter.unusedSimpArgs false
namespace Go.Proofs.YtoikjekpckhgeaaGreat
open Pal
theorem sealTells_at (k : Nat) (hk1 : 5000 < k) (hk2 : k < 1000000) (a0 : Ty.D (.int .u8)) (f0 : Fits (.int .u8) a0) (a1 : Ty.D (.int .u8)) (f1 : Fits (.int .u8) a1) (l : Ty.D (.slc tKnow)) (fl : Fits (.slc tKnow) l) (s : Ty.D tState) (fs : Fits tState s) (d : Ty.D tDot) : law30_SealTells.f k a0 a1 l s d = some true := by
  have aw : law30_awake.f k = some true := awake30 (by omega)
  have bt : bnot true = false := rfl
  have bf : bnot false = true := rfl
  obtain ⟨b, p, g1, hp⟩ := begun30_is k hk1 hk2 a0 a1 (u8_rng30 f0) (u8_rng30 f1) l fl.2
  rw [law30_SealTells.f_eq, g1, aw]
  simp only [bnd_some]
  cases b with
  | false => rfl
  | true =>
    rw [bt, br_false]
    obtain ⟨c, h1, h2⟩ := goodS_is k s fs hk1 hk2
    rw [h1, bnd_some]
    cases c with
    | false => rfl
    | true =>
      obtain ⟨cs, sh, rs⟩ := h2 rfl
      have ls := sh.len
      have ho := lens_of sh.each (k := k) (by omega)
      have hkd := kind_of rs sh.each (by omega) hk2
      have f1 : s.2.2.1.1.length = 16 := fs.2.2.1.1.1
      have f2 : s.2.2.2.1.1.length = 16 := fs.2.2.2.1.1.1
      have f3 : s.2.2.2.2.length = 8 := fs.2.2.2.2.1
      have csh := compS_short (p := p) sh.each
      have clen := compS_len (p := p) ls
      obtain ⟨b2, q1, q2⟩ := rsameS_is k (compS p s) (compS p s) clen (fun t ht => (csh t ht).lenT (by omega)) f3 f3 (by omega) (by omega) hk2
      obtain ⟨b3, q3, q4⟩ := rrightS_is k (compS p s) f1 f2 f3 csh (fun x hx => by have := clen.re x hx; omega) (by have := clen.un; omega) hk1 hk2
      have e2 : b2 = true := q2.2 rfl
      have e3 : b3 = true := q4.2 (compS_right rs sh.each (by omega) hk2)
      subst e2; subst e3
      rw [bt, br_false, compact_is k hp s cs ls ho (by omega) (by omega) (by omega) hk2]
      simp only [bnd_some]
      rw [ready_is k hp s cs ls (by omega) (by omega) (by omega) hk2, rready_is k hp s cs ls (by omega) (by omega) (by omega) hk2]
      simp only [bnd_some]
      rw [reqD k _ _ (by have := readyP_len (p := p) (s := s); have := ls.tx; omega) hk2, final_is k hp s cs ls d (by omega) (by omega) (by omega) hk2, rfinal_is k hp s cs ls d (by omega) (by omega) (by omega) hk2]
      simp only [bnd_some, decide_true, br_true, deqBool]
      rw [rcompact_is k hp s cs ls ho hkd (by omega) (by omega) (by omega) hk2]
      simp only [bnd_some]
      rw [q1]
      simp only [bnd_some, br_true]
      rw [q3]
      rfl
theorem sealTells_true (a0 : Ty.D (.int .u8)) (f0 : Fits (.int .u8) a0) (a1 : Ty.D (.int .u8)) (f1 : Fits (.int .u8) a1) (l : Ty.D (.slc tKnow)) (fl : Fits (.slc tKnow) l) (s : Ty.D tState) (fs : Fits tState s) (d : Ty.D tDot) (_ : Fits tDot d) : ∃ k, law30_SealTells.f k a0 a1 l s d = some true :=
  ⟨6000, sealTells_at 6000 (by decide) (by decide) a0 f0 a1 f1 l fl s fs d⟩
end Go.Proofs.YtoikjekpckhgeaaGreat
end
section
/- The statement of the law SealTells: for every input the law returns true, and its arguments read as they did. No conditions. -/
namespace Go.Proofs.YtoikjekpckhgeaaGreat.sealTellsDone
open Go.ChangeShapes Go.WideShapes Go.ChangeAt Go.RowKit
open Pal
set_option linter.unusedVariables false

theorem own : ownKnob Tryz.prog.godebug = none := by kernel_rfl
theorem laidOut : laidOutB Tryz.prog = true := by kernel_rfl
theorem ty0 : tyB Tryz.prog 40 5 (.int .u8) = true := by kernel_rfl
theorem ty1 : tyB Tryz.prog 40 5 (.int .u8) = true := by kernel_rfl
theorem ty2 : tyB Tryz.prog 40 77 (.slc tKnow) = true := by kernel_rfl
theorem ty3 : tyB Tryz.prog 40 39 tState = true := by kernel_rfl
theorem ty4 : tyB Tryz.prog 40 41 tDot = true := by kernel_rfl

theorem walk (W : World) (v0 : Value) (x0 : Ty.D (.int .u8)) (h0 : TRep (gh0 W) W (.dat (.int .u8) x0) v0 []) (f0 : Fits (.int .u8) x0) (v1 : Value) (x1 : Ty.D (.int .u8)) (h1 : TRep (gh0 W) W (.dat (.int .u8) x1) v1 []) (f1 : Fits (.int .u8) x1) (v2 : Value) (x2 : Ty.D (.slc tKnow)) (h2 : TRep (gh0 W) W (.dat (.slc tKnow) x2) v2 []) (f2 : Fits (.slc tKnow) x2) (v3 : Value) (x3 : Ty.D tState) (h3 : TRep (gh0 W) W (.dat tState x3) v3 []) (f3 : Fits tState x3) (v4 : Value) (x4 : Ty.D tDot) (h4 : TRep (gh0 W) W (.dat tDot x4) v4 []) (f4 : Fits tDot x4) :
    Calls Tryz.prog 7 #[v0, v1, v2, v3, v4] W fun e w' => e = .returned (.bool true) ∧ Below W.heap.size W w' := by
  obtain ⟨k, hk⟩ := sealTells_true x0 f0 x1 f1 x2 f2 x3 f3 x4 f4
  exact law_calls' (args := [.dat (.int .u8) x0, .dat (.int .u8) x1, .dat (.slc tKnow) x2, .dat tState x3, .dat tDot x4]) (argv := [v0, v1, v2, v3, v4]) (code := law30_SealTells.body) (σ := law30_SealTells.sg) (F := fun x => law30_SealTells.f k x.1 x.2.1 x.2.2.1 x.2.2.2.1 x.2.2.2.2) (x := (x0, x1, x2, x3, x4)) (r := true) (law30_SealTells.ok k) Tryz.func7 (by kernel_rfl) (by kernel_rfl) (by kernel_rfl) (by kernel_rfl) hk rfl rfl
    ⟨v0, _, [], [], rfl, rfl, h0, ⟨v1, _, [], [], rfl, rfl, h1, ⟨v2, _, [], [], rfl, rfl, h2, ⟨v3, _, [], [], rfl, rfl, h3, ⟨v4, _, [], [], rfl, rfl, h4, ⟨rfl, rfl⟩⟩⟩⟩⟩⟩

set_option maxRecDepth 100000 in
theorem lifted (os : Os) (started : os.Started) (H : Type) (enc : TypeId × Value → H) :
    ReturnsInHanded {} Tryz.checked os 7 .any (Rows.sealTellsSpec.pre6 enc Tryz.prog Tryz.f7 Rows.sealTellsRow.domain false) (Rows.sealTellsSpec.post enc Tryz.prog Tryz.f7 false true false false) := by
  refine returnsInHanded_of_change (C := Tryz.checked) own started (by kernel_rfl) Tryz.func7
    (ChangeSpec.witness6 (enc := enc) (C := Tryz.checked) false ⟨#[], #[.int .u8 0, .int .u8 0, .slice none 0 0, .agg #[.slice none 0 0, .slice none 0 0, .int .i64 0, .int .i64 0, .int .i64 0, .int .i64 0, .int .i64 0, .int .i64 0, .int .i64 0, .int .i64 0, .int .i64 0, .int .i64 0, .int .i64 0, .int .i64 0, .int .i64 0, .int .i64 0, .int .i64 0, .int .i64 0, .slice none 0 0, .int .i64 0, .int .i64 0, .int .i64 0, .int .i64 0, .int .i64 0, .int .i64 0, .int .i64 0, .int .i64 0, .int .i64 0, .int .i64 0, .int .i64 0, .int .i64 0, .int .i64 0, .int .i64 0, .int .i64 0, .int .i64 0, .slice none 0 0, .slice none 0 0, .slice none 0 0, .slice none 0 0, .slice none 0 0, .slice none 0 0, .slice none 0 0, .slice none 0 0, .slice none 0 0], .agg #[.int .i64 0, .int .i64 0]], []⟩ 12 (by kernel_rfl) (by kernel_rfl) (by kernel_rfl) (by kernel_rfl)) ?_
  intro W base args ds gs before hval0 hW hcnd _
  have hval : ∀ (j : Nat) t v, Tryz.f7.params[j]? = some t → args[j]? = some v → Value.okWide Tryz.prog W .any base t v := hval0
  have hW' := hW
  obtain ⟨p, q, hA0, hV, rfl, hfz, hnd⟩ := hW
  have hA : DataW.TrodAll enc Tryz.prog W 0 (fun _ => true) true Tryz.f7.params.toList args.toList ds p := hA0
  rw [Tryz.params7] at hA hval
  obtain ⟨v0, vs0, d0, ds0, p0, q0, hargs, rfl, rfl, h0, r0⟩ := trodAll_cons hA
  obtain ⟨v1, vs1, d1, ds1, p1, q1, rfl, rfl, rfl, h1, r1⟩ := trodAll_cons r0
  obtain ⟨v2, vs2, d2, ds2, p2, q2, rfl, rfl, rfl, h2, r2⟩ := trodAll_cons r1
  obtain ⟨v3, vs3, d3, ds3, p3, q3, rfl, rfl, rfl, h3, r3⟩ := trodAll_cons r2
  obtain ⟨v4, vs4, d4, ds4, p4, q4, rfl, rfl, rfl, h4, r4⟩ := trodAll_cons r3
  obtain ⟨rfl, rfl, rfl⟩ := trodAll_nil r4
  obtain rfl : args = #[v0, v1, v2, v3, v4] := by cases args; simp_all
  obtain ⟨rfl, rfl⟩ := trodVars_none hV
  have k0 := h0
  have lt0 : ∀ x ∈ p0, x.block < W.heap.size := by obtain ⟨m, hm⟩ := k0; exact DataW.trod_lt m _ _ _ hm
  obtain ⟨x0, g0, f0⟩ := arg_open ty0 (hval 0 5 v0 rfl rfl) h0
  have k1 := h1
  have lt1 : ∀ x ∈ p1, x.block < W.heap.size := by obtain ⟨m, hm⟩ := k1; exact DataW.trod_lt m _ _ _ hm
  obtain ⟨x1, g1, f1⟩ := arg_open ty1 (hval 1 5 v1 rfl rfl) h1
  have k2 := h2
  have lt2 : ∀ x ∈ p2, x.block < W.heap.size := by obtain ⟨m, hm⟩ := k2; exact DataW.trod_lt m _ _ _ hm
  obtain ⟨x2, g2, f2⟩ := arg_open ty2 (hval 2 77 v2 rfl rfl) h2
  have k3 := h3
  have lt3 : ∀ x ∈ p3, x.block < W.heap.size := by obtain ⟨m, hm⟩ := k3; exact DataW.trod_lt m _ _ _ hm
  obtain ⟨x3, g3, f3⟩ := arg_open ty3 (hval 3 39 v3 rfl rfl) h3
  have k4 := h4
  have lt4 : ∀ x ∈ p4, x.block < W.heap.size := by obtain ⟨m, hm⟩ := k4; exact DataW.trod_lt m _ _ _ hm
  obtain ⟨x4, g4, f4⟩ := arg_open ty4 (hval 4 41 v4 rfl rfl) h4
  clear hA0 hval0
  refine (walk W v0 x0 g0 f0 v1 x1 g1 f1 v2 x2 g2 f2 v3 x3 g3 f3 v4 x4 g4 f4).mono fun e W' ⟨he, bel⟩ => ?_
  subst he
  exact ⟨_, rfl, _, _, _, [], _, [], hW', trodAll_mk1 (shut_bool Tryz.underlying4 _), (trodAll_cons_mk (Below.trod laidOut (by kernel_rfl) (of_decide_eq_true (by kernel_rfl)) k0 bel lt0) (trodAll_cons_mk (Below.trod laidOut (by kernel_rfl) (of_decide_eq_true (by kernel_rfl)) k1 bel lt1) (trodAll_cons_mk (Below.trod laidOut (by kernel_rfl) (of_decide_eq_true (by kernel_rfl)) k2 bel lt2) (trodAll_cons_mk (Below.trod laidOut (by kernel_rfl) (of_decide_eq_true (by kernel_rfl)) k3 bel lt3) (trodAll_cons_mk (Below.trod laidOut (by kernel_rfl) (of_decide_eq_true (by kernel_rfl)) k4 bel lt4) trodAll_mk0))))), rfl, bel.frame _, fun h => by cases h⟩

theorem over : Rows.sealTellsRow.holds Tryz.pinned (OpenSpec.ofChange Rows.sealTellsSpec) :=
  OpenClaim.holds_of_wide 7 Tryz.f7 rfl rfl rfl rfl rfl rfl rfl ⟨rfl, rfl, rfl, rfl, rfl⟩ rfl rfl rfl rfl rfl (by kernel_rfl) Tryz.func7 (by kernel_rfl)
    (of_decide_eq_true (by kernel_rfl)) (by unfold Func.isWrapper; first | (rw [if_pos (by decide +kernel)]; kernel_rfl) | (rw [if_neg (by decide +kernel)]; exact ⟨rfl, rfl⟩))
    (fun os started H enc _ => lifted os started H enc)

theorem proved : Rows.SealTellsSaid := over
#print axioms proved
end Go.Proofs.YtoikjekpckhgeaaGreat.sealTellsDone
end
