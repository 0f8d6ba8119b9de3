/- The statement of the law StateReads, as a tied card: for every input the law returns true, and its arguments read as they did. The listed tables hold what the program's text lays. No other conditions. -/
import Derived.KernelRfl
import Derived.PinnedBridge
import Derived.Lib.LaidU8T
import Derived.MakeChecks
import Derived.Test.YtbiihldcljemfaaGreatDoorRows
import Derived.Test.YtbiihldcljemfaaGreatDoorTie
import Derived.Test.YtbiihldcljemfaaGreatDoorCards
import Derived.WalkKit
import Derived.ProofKit
import Derived.OpenShut
import Derived.ShutString
import Derived.ChangeOld
import Derived.Below
import Derived.LaidMore
import Derived.Stop.Joined
import Derived.SevenTiedAt
import Derived.Lay
import Derived.Test.YtbiihldcljemfaaGreatDoorFw1
import Derived.Test.YtbiihldcljemfaaGreatDoorFw2
import Derived.Test.YtbiihldcljemfaaGreatDoorFw3
import Derived.Test.YtbiihldcljemfaaGreatDoorStateReads1
import Derived.Test.YtbiihldcljemfaaGreatDoorStateReads2
import Derived.Test.YtbiihldcljemfaaGreatDoorStateReads3
set_option linter.unusedVariables false
set_option linter.unusedSimpArgs false
set_option linter.unusedSectionVars false
section
/- Readers: the program's and the document's read the same. -/
namespace Go.Proofs.YtbiihldcljemfaaGreatDoor
open Pal
abbrev Rdr := List UInt8 × Int
abbrev RefRdr := List UInt8 × (Int × Int)
structure RR (S : List UInt8) (r : Rdr) (x : RefRdr) : Prop where
  src : x.1 = S
  lo : 0 ≤ x.2.1
  hi : x.2.1 ≤ (S.length : Int)
  bad : r.2 = x.2.2
  rest : x.2.2 = 0 → r.1 = S.drop x.2.1.toNat
theorem fine_is (k : Nat) (o : Rdr) : pack_Reader_fine.f k o = some (decide (o.2 = 0), o) := by rw [pack_Reader_fine.f_eq, ieq_dec]
theorem fail_is (k : Nat) (e : Int) (o : Rdr) : pack_Reader_Fail.f k e o = some ((), if o.2 = 0 then (o.1, e) else o) := by
  rw [pack_Reader_Fail.f_eq, fine_is]
  simp only [bnd_some, br_dec]
  split <;> rfl
theorem byte_lt (b : UInt8) : b.toNat < 256 := b.toNat_lt
theorem byteAt_drop (S : List UInt8) (a i : Nat) : byteAt (S.drop a) (i : Int) = byteAt S ((a + i : Nat) : Int) := by
  unfold byteAt
  rw [Int.toNat_natCast, Int.toNat_natCast]
  simp [List.getD]
theorem byteAt_rng (S : List UInt8) (i : Int) : 0 ≤ byteAt S i ∧ byteAt S i < 256 := by
  unfold byteAt
  have := byte_lt (S.getD i.toNat 0); omega
theorem wrap64 {n : Int} (h1 : -9000000000000000000 ≤ n) (h2 : n ≤ 9000000000000000000) : IntKind.wrap .i64 n = n := by
  have e1 : ((2 : Int) ^ 63) = 9223372036854775808 := by decide
  exact wrap_i64 (by rw [e1]; omega) (by rw [e1]; omega)
theorem iand127 {c : Nat} (h : c < 9000000000000000000) : iand .i64 (c : Int) 127 = ((c % 128 : Nat) : Int) := by
  show IntKind.wrap .i64 (((BitVec.ofInt 64 (c : Int) &&& BitVec.ofInt 64 127).toNat : Nat) : Int) = _
  have e : (BitVec.ofInt 64 (c : Int) &&& BitVec.ofInt 64 127).toNat = c % 128 := by
    have e1 : BitVec.ofInt 64 (c : Int) = BitVec.ofNat 64 c := by simp
    have e2 : BitVec.ofInt 64 127 = BitVec.ofNat 64 127 := by decide
    rw [e1, e2, BitVec.toNat_and, BitVec.toNat_ofNat, BitVec.toNat_ofNat, Nat.mod_eq_of_lt (show c < 2 ^ 64 by omega), show 127 % 2 ^ 64 = 2 ^ 7 - 1 by decide, Nat.and_two_pow_sub_one_eq_mod]
  rw [e, wrap64 (by omega) (by omega)]
theorem ior_add {a b m : Nat} (ha : a < 2 ^ m) (hb : 2 ^ m * b + a < 9000000000000000000) : ior .i64 (a : Int) ((2 ^ m * b : Nat) : Int) = ((2 ^ m * b + a : Nat) : Int) := by
  show IntKind.wrap .i64 (((BitVec.ofInt 64 (a : Int) ||| BitVec.ofInt 64 ((2 ^ m * b : Nat) : Int)).toNat : Nat) : Int) = _
  have e : (BitVec.ofInt 64 (a : Int) ||| BitVec.ofInt 64 ((2 ^ m * b : Nat) : Int)).toNat = 2 ^ m * b + a := by
    have e1 : ∀ c : Nat, BitVec.ofInt 64 (c : Int) = BitVec.ofNat 64 c := fun c => by simp
    rw [e1, e1, BitVec.toNat_or, BitVec.toNat_ofNat, BitVec.toNat_ofNat, Nat.mod_eq_of_lt (show a < 2 ^ 64 by omega), Nat.mod_eq_of_lt (show 2 ^ m * b < 2 ^ 64 by omega), Nat.or_comm, Nat.two_pow_add_eq_or_of_lt ha]
  rw [e, wrap64 (by omega) (by omega)]
theorem pow_mono {i : Nat} (h : i ≤ 8) : 2 ^ (7 * i) ≤ 72057594037927936 := by
  have : 2 ^ (7 * i) ≤ 2 ^ 56 := Nat.pow_le_pow_right (by decide) (by omega)
  exact this
theorem pow_mono7 {i : Nat} (h : i < 8) : 2 ^ (7 * i) ≤ 562949953421312 := by
  have : 2 ^ (7 * i) ≤ 2 ^ 49 := Nat.pow_le_pow_right (by decide) (by omega)
  exact this
theorem num_step {i c n : Nat} (hi : i < 8) (hc : c < 256) (hn : n < 2 ^ (7 * i)) :
    ior .i64 (n : Int) (ishl .i64 (iand .i64 (c : Int) 127) (imul .i64 7 (i : Int))) = ((2 ^ (7 * i) * (c % 128) + n : Nat) : Int) ∧ 2 ^ (7 * i) * (c % 128) + n < 2 ^ (7 * (i + 1)) := by
  have hp := pow_mono7 hi
  have hp1 := pow_mono (show i + 1 ≤ 8 by omega)
  have e7 : 2 ^ (7 * (i + 1)) = 2 ^ (7 * i) * 128 := by rw [show 7 * (i + 1) = 7 * i + 7 by omega, Nat.pow_add]
  have hm : c % 128 ≤ 127 := by omega
  have hmul : 2 ^ (7 * i) * (c % 128) ≤ 2 ^ (7 * i) * 127 := Nat.mul_le_mul_left _ hm
  have hlt : 2 ^ (7 * i) * (c % 128) + n < 2 ^ (7 * (i + 1)) := by rw [e7]; omega
  refine ⟨?_, hlt⟩
  have e1 : imul .i64 7 (i : Int) = ((7 * i : Nat) : Int) := by
    show IntKind.wrap .i64 (7 * (i : Int)) = _
    rw [wrap64 (by omega) (by omega)]; omega
  have e2 : ishl .i64 ((c % 128 : Nat) : Int) ((7 * i : Nat) : Int) = ((2 ^ (7 * i) * (c % 128) : Nat) : Int) := by
    show IntKind.wrap .i64 (((c % 128 : Nat) : Int) * 2 ^ (min ((7 * i : Nat) : Int).toNat 64)) = _
    have : min ((7 * i : Nat) : Int).toNat 64 = 7 * i := by omega
    rw [this]
    have e3 : ((c % 128 : Nat) : Int) * 2 ^ (7 * i) = ((2 ^ (7 * i) * (c % 128) : Nat) : Int) := by
      rw [Int.natCast_mul, Int.natCast_pow, Int.mul_comm]; rfl
    rw [e3, wrap64 (by omega) (by omega)]
  rw [iand127 (by omega), e1, e2, ior_add hn (by omega)]
theorem ref_step {i c n : Nat} (hi : i < 8) (hc : c < 256) (hn : n < 2 ^ (7 * i)) (hc2 : 128 ≤ c) :
    iadd .i64 (n : Int) (imul .i64 (isub .i64 (c : Int) 128) ((2 ^ (7 * i) : Nat) : Int)) = ((2 ^ (7 * i) * (c % 128) + n : Nat) : Int) := by
  have hp := pow_mono7 hi
  have e1 : isub .i64 (c : Int) 128 = ((c % 128 : Nat) : Int) := by
    show IntKind.wrap .i64 ((c : Int) - 128) = _
    rw [wrap64 (by omega) (by omega)]; omega
  have hmul : (c % 128) * 2 ^ (7 * i) ≤ 127 * 2 ^ (7 * i) := Nat.mul_le_mul_right _ (by omega)
  have e2 : imul .i64 ((c % 128 : Nat) : Int) ((2 ^ (7 * i) : Nat) : Int) = (((c % 128) * 2 ^ (7 * i) : Nat) : Int) := by
    show IntKind.wrap .i64 (((c % 128 : Nat) : Int) * ((2 ^ (7 * i) : Nat) : Int)) = _
    rw [← Int.natCast_mul, wrap64 (by omega) (by omega)]
  rw [e1, e2]
  show IntKind.wrap .i64 ((n : Int) + (((c % 128) * 2 ^ (7 * i) : Nat) : Int)) = _
  rw [wrap64 (by omega) (by omega), Nat.mul_comm]; omega
theorem ref_last {i c n : Nat} (hi : i < 8) (hn : n < 2 ^ (7 * i)) (hc2 : c < 128) :
    iadd .i64 (n : Int) (imul .i64 (c : Int) ((2 ^ (7 * i) : Nat) : Int)) = ((2 ^ (7 * i) * (c % 128) + n : Nat) : Int) := by
  have hp := pow_mono7 hi
  have hmul : c * 2 ^ (7 * i) ≤ 127 * 2 ^ (7 * i) := Nat.mul_le_mul_right _ (by omega)
  have e2 : imul .i64 (c : Int) ((2 ^ (7 * i) : Nat) : Int) = ((c * 2 ^ (7 * i) : Nat) : Int) := by
    show IntKind.wrap .i64 ((c : Int) * ((2 ^ (7 * i) : Nat) : Int)) = _
    rw [← Int.natCast_mul, wrap64 (by omega) (by omega)]
  rw [e2, Nat.mod_eq_of_lt (show c < 128 by omega)]
  show IntKind.wrap .i64 ((n : Int) + ((c * 2 ^ (7 * i) : Nat) : Int)) = _
  rw [wrap64 (by omega) (by omega), Nat.mul_comm]; omega
theorem unit_step {i : Nat} (hi : i < 8) : imul .i64 ((2 ^ (7 * i) : Nat) : Int) 128 = ((2 ^ (7 * (i + 1)) : Nat) : Int) := by
  have hp := pow_mono7 hi
  have e7 : 2 ^ (7 * (i + 1)) = 2 ^ (7 * i) * 128 := by rw [show 7 * (i + 1) = 7 * i + 7 by omega, Nat.pow_add]
  show IntKind.wrap .i64 (((2 ^ (7 * i) : Nat) : Int) * 128) = _
  rw [wrap64 (by omega) (by omega), e7]; omega
theorem rr_bad {S s : List UInt8} {a : Nat} {e : Int} (h : a ≤ S.length) (he : e ≠ 0) : RR S (s, e) (S, ((a : Int), e)) :=
  ⟨rfl, by show (0 : Int) ≤ (a : Int); omega, by show (a : Int) ≤ (S.length : Int); omega, rfl, fun hh => absurd hh he⟩
def IntOK (S : List UInt8) (p : Option (Int × Rdr)) (q : Option (Int × RefRdr)) : Prop :=
  ∃ n r x, p = some (n, r) ∧ q = some (n, x) ∧ RR S r x ∧ 0 ≤ n ∧ n < 72057594037927936 ∧ (x.2.2 ≠ 0 → n = 0)
theorem int_bad (k m : Nat) (a b : Int) (s : List UInt8) (e : Int) (he : e ≠ 0) : pack_Reader_Int.l3 k (m + 1) a b (s, e) = some (0, (s, e)) := by
  rw [pack_Reader_Int.l3_eq, fine_is]
  simp only [bnd_some, he, decide_false, br_false]
theorem int_fin {S : List UInt8} {a i : Nat} (hl : a + i < S.length) (hS : S.length < 4000000) {v : Int} (h0 : 0 ≤ v) (h1 : v < 72057594037927936) :
    IntOK S (br (inS ((i + 1 : Nat) : Int) (ilen (S.drop a)) (ilen (S.drop a))) (some (v, ((piece (S.drop a) ((i + 1 : Nat) : Int) (ilen (S.drop a))), (0 : Int)))) none) (some (v, (S, ((iadd .i64 ((a + i : Nat) : Int) 1), (0 : Int))))) := by
  have hin : inS ((i + 1 : Nat) : Int) (ilen (S.drop a)) (ilen (S.drop a)) = true := by
    have q1 : ((i + 1 : Nat) : Int) ≤ ((S.drop a).length : Int) := by rw [List.length_drop]; omega
    show (decide ((0 : Int) ≤ ((i + 1 : Nat) : Int)) && decide (((i + 1 : Nat) : Int) ≤ ((S.drop a).length : Int)) && decide (((S.drop a).length : Int) ≤ ((S.drop a).length : Int))) = true
    rw [decide_eq_true q1, decide_eq_true (show (0 : Int) ≤ ((i + 1 : Nat) : Int) by omega), decide_eq_true (Int.le_refl _)]; rfl
  rw [hin, iadd_nat (by omega)]
  refine ⟨_, _, _, rfl, rfl, ⟨rfl, by show (0 : Int) ≤ ((a + i + 1 : Nat) : Int); omega, by show ((a + i + 1 : Nat) : Int) ≤ (S.length : Int); omega, rfl, fun _ => ?_⟩, h0, h1, fun h => absurd rfl h⟩
  show piece (S.drop a) ((i + 1 : Nat) : Int) (ilen (S.drop a)) = S.drop ((a + i + 1 : Nat) : Int).toNat
  unfold piece ilen
  rw [Int.toNat_natCast, Int.toNat_natCast, Int.toNat_natCast, List.take_length, List.drop_drop]
  congr 1
theorem int_end (k : Nat) (S : List UInt8) (a : Nat) (ha : a ≤ S.length) (n u : Int) (m1 m2 : Nat) :
    IntOK S (pack_Reader_Int.l3 k (m1 + 2) n ((8 : Nat) : Int) (S.drop a, 0)) (ref02_Reader_Int.l5 k (m2 + 1) n u ((8 : Nat) : Int) (S, ((a : Int), 0))) := by
    rw [pack_Reader_Int.l3_eq, ref02_Reader_Int.l5_eq, fine_is]
    have e1 : ieq ((8 : Nat) : Int) 8 = true := rfl
    have e2 : ilt ((8 : Nat) : Int) 8 = false := rfl
    simp only [bnd_some, decide_true, br_true, e1, e2, br_false, fail_is, if_true]
    rw [int_bad k m1 _ _ _ 6 (by decide)]
    exact ⟨0, _, _, rfl, rfl, rr_bad ha (by decide), by decide, by decide, fun _ => rfl⟩
theorem int_step (k : Nat) (S : List UInt8) (a : Nat) (ha : a ≤ S.length) (hS : S.length < 4000000) (i n m1 m2 : Nat) (hi8 : i < 8) (hn : n < 2 ^ (7 * i))
    (ih : ∀ v : Nat, v < 2 ^ (7 * (i + 1)) → IntOK S (pack_Reader_Int.l3 k (m1 + 1) (v : Int) ((i + 1 : Nat) : Int) (S.drop a, 0)) (ref02_Reader_Int.l5 k m2 (v : Int) ((2 ^ (7 * (i + 1)) : Nat) : Int) ((i + 1 : Nat) : Int) (S, ((a : Int), 0)))) :
    IntOK S (pack_Reader_Int.l3 k (m1 + 2) (n : Int) (i : Int) (S.drop a, 0)) (ref02_Reader_Int.l5 k (m2 + 1) (n : Int) ((2 ^ (7 * i) : Nat) : Int) (i : Int) (S, ((a : Int), 0))) := by
    rw [pack_Reader_Int.l3_eq, ref02_Reader_Int.l5_eq, fine_is]
    have e1 : ieq (i : Int) 8 = false := by rw [ieq_dec]; exact decide_eq_false (by omega)
    have e2 : ilt (i : Int) 8 = true := decide_eq_true (by omega)
    have e3 : iadd .i64 (a : Int) (i : Int) = ((a + i : Nat) : Int) := by rw [iadd_s (by omega) (by omega) (by omega) (by omega)]; omega
    have e4 : ile (ilen (S.drop a)) (i : Int) = decide (S.length ≤ a + i) := by
      unfold ile ilen; rw [List.length_drop]; exact decide_eq_decide.2 ⟨fun h => by omega, fun h => by omega⟩
    have e5 : ile (ilen S) ((a + i : Nat) : Int) = decide (S.length ≤ a + i) := by
      unfold ile ilen; exact decide_eq_decide.2 ⟨fun h => by omega, fun h => by omega⟩
    have e6 : inL (i : Int) (S.drop a) = decide (a + i < S.length) := by
      rw [inL_nat, List.length_drop]; exact decide_eq_decide.2 ⟨fun h => by omega, fun h => by omega⟩
    have e8' : inL ((a + i : Nat) : Int) S = decide (a + i < S.length) := inL_nat _ _
    have e7 : ilt (imul .i64 7 (i : Int)) 0 = false := by
      show decide (IntKind.wrap .i64 (7 * (i : Int)) < 0) = false
      rw [wrap64 (by omega) (by omega)]; exact decide_eq_false (by omega)
    simp only [bnd_some, decide_true, br_true, e1, e2, br_false, fail_is, if_true, e3, e4, e5, e6, e7, e8', byteAt_drop]
    by_cases hl : S.length ≤ a + i
    · simp only [hl, decide_true, br_true]
      rw [int_bad k m1 _ _ _ 4 (by decide)]
      exact ⟨0, _, _, rfl, rfl, rr_bad ha (by decide), by decide, by decide, fun _ => rfl⟩
    · have hl2 : a + i < S.length := by omega
      simp only [hl, hl2, decide_true, decide_false, br_true, br_false]
      have hcr := byteAt_rng S ((a + i : Nat) : Int)
      obtain ⟨c, hc⟩ : ∃ c : Nat, byteAt S ((a + i : Nat) : Int) = (c : Int) := ⟨(byteAt S ((a + i : Nat) : Int)).toNat, by omega⟩
      rw [hc] at hcr ⊢
      have hw : iwrap .i64 (c : Int) = (c : Int) := wrap64 (by omega) (by omega)
      have hc256 : c < 256 := by omega
      obtain ⟨g1, g2⟩ := num_step (c := c) hi8 hc256 hn
      have e12 : iadd .i64 (i : Int) 1 = ((i + 1 : Nat) : Int) := iadd_nat (by omega)
      rw [hw, g1, e12]
      have e8 : ile 128 (c : Int) = decide (128 ≤ c) := by unfold ile; exact decide_eq_decide.2 ⟨fun h => by omega, fun h => by omega⟩
      have e9 : ilt (c : Int) 128 = decide (c < 128) := by unfold ilt; exact decide_eq_decide.2 ⟨fun h => by omega, fun h => by omega⟩
      have e10 : ieq (c : Int) 0 = decide (c = 0) := by rw [ieq_dec]; exact decide_eq_decide.2 ⟨fun h => by omega, fun h => by omega⟩
      have e11 : ilt 0 (i : Int) = decide (0 < i) := ilt_nn 0 i
      rw [e8, e9, e10, e11]
      by_cases hc2 : 128 ≤ c
      · have hc3 : ¬ c < 128 := by omega
        rw [decide_eq_true hc2, decide_eq_false hc3, br_true, br_false]
        rw [ref_step hi8 hc256 hn hc2, unit_step hi8]
        exact ih _ g2
      · have hc3 : c < 128 := by omega
        rw [decide_eq_false hc2, decide_eq_true hc3, br_false, br_true]
        rw [ref_last hi8 hn hc3]
        have hp1 := pow_mono (show i + 1 ≤ 8 by omega)
        obtain ⟨v, hv⟩ : ∃ v : Int, v = ((2 ^ (7 * i) * (c % 128) + n : Nat) : Int) := ⟨_, rfl⟩
        have v0 : 0 ≤ v := by omega
        have v1 : v < 72057594037927936 := by omega
        rw [← hv]
        have fin := int_fin hl2 hS v0 v1
        by_cases hc0 : c = 0
        · simp only [hc0, decide_true, br_true]
          by_cases h0 : 0 < i
          · simp only [h0, decide_true, br_true]
            rw [int_bad k m1 _ _ _ 3 (by decide)]
            exact ⟨0, _, _, rfl, rfl, rr_bad ha (by decide), by decide, by decide, fun _ => rfl⟩
          · simp only [h0, decide_false, br_false]
            exact fin
        · simp only [hc0, decide_false, br_false]
          exact fin
theorem int_l (k : Nat) (S : List UInt8) (a : Nat) (ha : a ≤ S.length) (hS : S.length < 4000000) (m : Nat) : ∀ (i n m1 m2 : Nat), i + m = 8 → m + 2 ≤ m1 → m + 1 ≤ m2 → n < 2 ^ (7 * i) →
    IntOK S (pack_Reader_Int.l3 k m1 (n : Int) (i : Int) (S.drop a, 0)) (ref02_Reader_Int.l5 k m2 (n : Int) ((2 ^ (7 * i) : Nat) : Int) (i : Int) (S, ((a : Int), 0))) := by
  induction m with
  | zero =>
    intro i n m1 m2 hi h1 h2 hn
    obtain ⟨q1, rfl⟩ : ∃ q, m1 = q + 2 := ⟨m1 - 2, by omega⟩
    obtain ⟨q2, rfl⟩ : ∃ q, m2 = q + 1 := ⟨m2 - 1, by omega⟩
    have : i = 8 := by omega
    subst this
    exact int_end k S a ha _ _ q1 q2
  | succ m ih =>
    intro i n m1 m2 hi h1 h2 hn
    obtain ⟨q1, rfl⟩ : ∃ q, m1 = q + 2 := ⟨m1 - 2, by omega⟩
    obtain ⟨q2, rfl⟩ : ∃ q, m2 = q + 1 := ⟨m2 - 1, by omega⟩
    exact int_step k S a ha hS i n q1 q2 (by omega) hn fun v hv => ih (i + 1) v (q1 + 1) q2 (by omega) (by omega) (by omega) hv
theorem int_is (k : Nat) (S : List UInt8) (r : Rdr) (x : RefRdr) (h : RR S r x) (hS : S.length < 4000000) (hk : 12 < k) : IntOK S (pack_Reader_Int.f k r) (ref02_Reader_Int.f k x) := by
  obtain ⟨s, b⟩ := r
  obtain ⟨S', a, e⟩ := x
  obtain ⟨h1, h2, h3, h4, h5⟩ := h
  simp only at h1 h2 h3 h4 h5
  subst h1; subst h4
  rw [pack_Reader_Int.f_eq, ref02_Reader_Int.f_eq, ieq_dec, bnot_dec]
  by_cases hb : b = 0
  · subst hb
    simp only [not_true, decide_false, br_false]
    rw [h5 rfl]
    obtain ⟨A, hA⟩ : ∃ A : Nat, a = (A : Int) := ⟨a.toNat, by omega⟩
    subst hA
    have := int_l k S' A (by omega) hS 8 0 0 k k (by omega) (by omega) (by omega) (by decide)
    exact this
  · simp only [hb, not_false_eq_true, decide_true, br_true]
    obtain ⟨m, rfl⟩ : ∃ m, k = m + 1 := ⟨k - 1, by omega⟩
    rw [int_bad (m + 1) m _ _ _ b hb]
    exact ⟨0, _, _, rfl, rfl, ⟨rfl, h2, h3, rfl, fun h => absurd h hb⟩, by decide, by decide, fun _ => rfl⟩
theorem many_is (k : Nat) (S : List UInt8) (most : Int) (r : Rdr) (x : RefRdr) (h : RR S r x) (hS : S.length < 4000000) (hk : 12 < k) : ∃ (n : Int) (r' : Rdr) (x' : RefRdr), pack_Reader_Many.f k most r = some (n, r') ∧ ref02_Reader_Many.f k most x = some (n, x') ∧ RR S r' x' ∧ 0 ≤ n ∧ n ≤ (S.length : Int) ∧ (n ≠ 0 → n ≤ most) := by
  obtain ⟨n, r1, x1, e1, e2, hr, n0, n1, nb⟩ := int_is k S r x h hS hk
  rw [pack_Reader_Many.f_eq, ref02_Reader_Many.f_eq, e1, e2]
  simp only [bnd_some, fine_is, fail_is, ieq_dec, bnot_dec, br_dec, ilt_dec]
  obtain ⟨s1, b1⟩ := r1
  obtain ⟨S1, a1, e3⟩ := x1
  obtain ⟨q1, q2, q3, q4, q5⟩ := hr
  simp only at q1 q2 q3 q4 q5 nb ⊢
  subst q1; subst q4
  by_cases hb : b1 = 0
  · subst hb
    have hl : (s1.length : Int) = (S1.length : Int) - a1 := by rw [q5 rfl, List.length_drop]; omega
    have hsub : isub .i64 (ilen S1) a1 = (S1.length : Int) - a1 := by unfold ilen; exact isub_s (by omega) (by omega) (by omega) (by omega)
    have hlen : ilen s1 = (S1.length : Int) - a1 := hl
    simp only [hsub, hlen, not_true, if_false, if_true]
    by_cases c1 : most < n
    · rw [if_pos c1, if_pos c1]
      exact ⟨0, _, _, rfl, rfl, ⟨rfl, q2, q3, rfl, fun h => by cases h⟩, by omega, by omega, fun h => absurd rfl h⟩
    · rw [if_neg c1, if_neg c1]
      by_cases c2 : (S1.length : Int) - a1 < n
      · rw [if_pos c2, if_pos c2]
        exact ⟨0, _, _, rfl, rfl, ⟨rfl, q2, q3, rfl, fun h => by cases h⟩, by omega, by omega, fun h => absurd rfl h⟩
      · rw [if_neg c2, if_neg c2]
        exact ⟨n, _, _, rfl, rfl, ⟨rfl, q2, q3, rfl, q5⟩, n0, by omega, fun _ => by omega⟩
  · simp only [hb, not_false_eq_true, if_true, if_false]
    exact ⟨0, _, _, rfl, rfl, ⟨rfl, q2, q3, rfl, q5⟩, by omega, by omega, fun h => absurd rfl h⟩
theorem fault_is (k : Nat) (r : Rdr) : pack_Reader_Fault.f k r = some (r.2, r) := pack_Reader_Fault.f_eq k r
theorem left_is (k : Nat) (S : List UInt8) (r : Rdr) (x : RefRdr) (h : RR S r x) (hS : S.length < 4000000) : ∃ n, pack_Reader_Left.f k r = some (n, r) ∧ ref02_Reader_Left.f k x = some (n, x) := by
  rw [pack_Reader_Left.f_eq, ref02_Reader_Left.f_eq, fine_is]
  obtain ⟨s1, b1⟩ := r
  obtain ⟨S1, a1, e3⟩ := x
  obtain ⟨q1, q2, q3, q4, q5⟩ := h
  simp only at q1 q2 q3 q4 q5 ⊢
  subst q1; subst q4
  simp only [bnd_some, ieq_dec, bnot_dec, br_dec]
  by_cases hb : b1 = 0
  · subst hb
    refine ⟨ilen s1, by simp, ?_⟩
    have hsub : isub .i64 (ilen S1) a1 = ilen s1 := by unfold ilen; rw [isub_s (by omega) (by omega) (by omega) (by omega), q5 rfl, List.length_drop]; omega
    simp [hsub]
  · exact ⟨0, by simp [hb], by simp [hb]⟩
theorem open_rr (S : List UInt8) : RR S (S, 0) (S, (0, 0)) := ⟨rfl, Int.le_refl _, by show (0 : Int) ≤ _; omega, rfl, fun _ => rfl⟩
theorem RR.fail {S : List UInt8} {r : Rdr} {x : RefRdr} (h : RR S r x) {e : Int} (he : e ≠ 0) (hb : x.2.2 = 0) : RR S (r.1, e) (x.1, (x.2.1, e)) := ⟨h.src, h.lo, h.hi, rfl, fun hh => absurd hh he⟩
end Go.Proofs.YtbiihldcljemfaaGreatDoor
end
section
/- Dots, vectors, rows of dots and sets: the program and the document read the same. -/
namespace Go.Proofs.YtbiihldcljemfaaGreatDoor
open Pal
theorem dotread_is (k : Nat) (S : List UInt8) (r : Rdr) (x : RefRdr) (h : RR S r x) (hS : S.length < 4000000) (hk : 12 < k) :
    ∃ (d : Dot) (r' : Rdr) (x' : RefRdr), dot_Read.f k r = some (d, r') ∧ ref04_Read.f k x = some (d, x') ∧ RR S r' x' ∧ (x'.2.2 = 0 → rightD d = true) := by
  obtain ⟨a, r1, x1, e1, e2, h1, _, _, _⟩ := int_is k S r x h hS hk
  obtain ⟨b, r2, x2, e3, e4, h2, _, _, _⟩ := int_is k S r1 x1 h1 hS hk
  rw [dot_Read.f_eq, ref04_Read.f_eq, e1, e2]
  simp only [bnd_some, e3, e4, fault_is, fail_is, ieq_dec, bnot_dec, br_dec, right_is, rright_is]
  obtain ⟨s2, b2⟩ := r2
  obtain ⟨S2, a2, c2⟩ := x2
  have hb : b2 = c2 := h2.bad
  subst hb
  by_cases hz : b2 = 0
  · subst hz
    simp only [if_true]
    cases hr : rightD (a, b) with
    | true =>
      have e : bnot true = false := rfl
      simp only [e, br_false, not_true, if_false]
      exact ⟨(a, b), _, _, rfl, rfl, h2, fun _ => hr⟩
    | false =>
      have e : bnot false = true := rfl
      simp only [e, br_true]
      exact ⟨(0, 0), _, _, rfl, rfl, h2.fail (e := 2) (by decide) rfl, fun hh => by cases hh⟩
  · simp only [hz, not_false_eq_true, if_true, if_false]
    exact ⟨(0, 0), _, _, rfl, rfl, h2, fun hh => absurd hh hz⟩
theorem upd_len {v : Vec} {i : Nat} {x : Int} : (upd v i x).length = v.length := by simp [upd]
theorem vread_l (k : Nat) (S : List UInt8) (hS : S.length < 4000000) (hk : 17 < k) (za zb : Vec) : ∀ (n i : Nat) (v : Vec) (r : Rdr) (x : RefRdr), i ≤ 16 → 16 < n + i → v.length = 16 → RR S r x →
    ∃ (v' : Vec) (r' : Rdr) (x' : RefRdr), vec_Read.l3 k n (i : Int) za v r = some (v', r') ∧ ref05_Read.l3 k n (i : Int) zb v x = some (v', x') ∧ RR S r' x' ∧ v'.length = 16 ∧ (x'.2.2 = 0 → VOk v')
  | 0, i, _, _, _, h, h', _, _ => by omega
  | n + 1, i, v, r, x, h, h', hv, hr => by
    rw [vec_Read.l3_eq, ref05_Read.l3_eq]
    have e1 : ilt (i : Int) 16 = decide (i < 16) := ilt_nn i 16
    rw [e1, inB_nat]
    by_cases hi : i < 16
    · obtain ⟨a, r1, x1, e2, e3, h1, _, _, _⟩ := int_is k S r x hr hS (by omega)
      have e4 : iadd .i64 (i : Int) 1 = ((i + 1 : Nat) : Int) := iadd_nat (by omega)
      rw [decide_eq_true hi, e2, e3, e4]
      simp only [br_true, bnd_some]
      exact vread_l k S hS hk za zb n (i + 1) _ r1 x1 (by omega) (by omega) (by rw [upd_len]; exact hv) h1
    · rw [decide_eq_false hi]
      obtain ⟨b1, g1, i1⟩ := vr_is k v hv hk
      obtain ⟨b2, g2, i2⟩ := rvr_is k v hv hk
      have hbb : b1 = b2 := by rw [Bool.eq_iff_iff, i1, i2]
      subst hbb
      simp only [br_false, bnd_some, g1, g2, fault_is, fail_is, ieq_dec, bnot_dec, br_dec]
      obtain ⟨s2, c1⟩ := r
      obtain ⟨S2, a2, c2⟩ := x
      have hb : c1 = c2 := hr.bad
      subst hb
      by_cases hz : c1 = 0
      · subst hz
        simp only [if_true]
        cases b1 with
        | true =>
          have e : bnot true = false := rfl
          simp only [e, br_false, not_true, if_false]
          exact ⟨v, _, _, rfl, rfl, hr, hv, fun _ => i1.1 rfl⟩
        | false =>
          have e : bnot false = true := rfl
          simp only [e, br_true]
          exact ⟨zarr 16 0, _, _, rfl, rfl, hr.fail (e := 2) (by decide) rfl, rfl, fun hh => by cases hh⟩
      · simp only [hz, not_false_eq_true, if_true, if_false]
        exact ⟨zarr 16 0, _, _, rfl, rfl, hr, rfl, fun hh => absurd hh hz⟩
theorem vread_is (k : Nat) (S : List UInt8) (r : Rdr) (x : RefRdr) (h : RR S r x) (hS : S.length < 4000000) (hk : 17 < k) :
    ∃ (v' : Vec) (r' : Rdr) (x' : RefRdr), vec_Read.f k r = some (v', r') ∧ ref05_Read.f k x = some (v', x') ∧ RR S r' x' ∧ v'.length = 16 ∧ (x'.2.2 = 0 → VOk v') := by
  rw [vec_Read.f_eq, ref05_Read.f_eq]
  exact vread_l k S hS hk _ _ k 0 (zarr 16 0) r x (by omega) (by omega) rfl h
theorem lread_l (k : Nat) (S : List UInt8) (hS : S.length < 1000000) (hk : 12 < k) (N : Nat) (hN : N ≤ S.length) : ∀ (n i : Nat) (l : List Dot) (r : Rdr) (x : RefRdr), i ≤ N → N < n + i → l.length = i → RR S r x →
    ∃ (l' : List Dot) (r' : Rdr) (x' : RefRdr), dots_ReadList.l3 k n l (N : Int) (i : Int) r = some (l', r') ∧ ref06_ReadList.l4 k n (N : Int) l (i : Int) x = some (l', x') ∧ RR S r' x' ∧ l'.length ≤ N
  | 0, i, _, _, _, h, h', _, _ => by omega
  | n + 1, i, l, r, x, h, h', hl, hr => by
    rw [dots_ReadList.l3_eq, ref06_ReadList.l4_eq, ilt_nn]
    by_cases hi : i < N
    · obtain ⟨d, r1, x1, e1, e2, h1, _⟩ := dotread_is k S r x hr (by omega) hk
      have e4 : iadd .i64 (i : Int) 1 = ((i + 1 : Nat) : Int) := iadd_nat (by omega)
      rw [decide_eq_true hi, e1, e2, e4]
      simp only [br_true, bnd_some, room1 (show l.length < 4000000 by omega)]
      exact lread_l k S hS hk N hN n (i + 1) _ r1 x1 (by omega) (by omega) (by simp [app, hl]) h1
    · rw [decide_eq_false hi]
      simp only [br_false, bnd_some, fault_is, ieq_dec, bnot_dec, br_dec]
      have hb : r.2 = x.2.2 := hr.bad
      rw [hb]
      by_cases hz : x.2.2 = 0
      · simp only [hz, not_true, if_false]
        exact ⟨l, _, _, rfl, rfl, hr, by omega⟩
      · simp only [hz, not_false_eq_true, if_true]
        exact ⟨[], _, _, rfl, rfl, hr, by simp⟩
theorem lread_is (k : Nat) (S : List UInt8) (most : Int) (r : Rdr) (x : RefRdr) (h : RR S r x) (hS : S.length < 1000000) (hk : 12 < k) (hk2 : S.length < k) :
    ∃ (l : List Dot) (r' : Rdr) (x' : RefRdr), dots_ReadList.f k most r = some (l, r') ∧ ref06_ReadList.f k most x = some (l, x') ∧ RR S r' x' ∧ l.length ≤ S.length ∧ (l ≠ [] → (l.length : Int) ≤ most) := by
  obtain ⟨n, r1, x1, e1, e2, h1, n0, n1, nm⟩ := many_is k S most r x h (by omega) hk
  rw [dots_ReadList.f_eq, ref06_ReadList.f_eq, e1, e2]
  simp only [bnd_some]
  obtain ⟨N, rfl⟩ : ∃ N : Nat, n = (N : Int) := ⟨n.toNat, by omega⟩
  obtain ⟨l, r', x', g1, g2, g3, g4⟩ := lread_l k S hS hk N (by omega) k 0 [] r1 x1 (by omega) (by omega) rfl h1
  refine ⟨l, r', x', g1, g2, g3, by omega, fun hne => ?_⟩
  have hpos : 0 < l.length := List.length_pos_iff.2 hne
  have := nm (by omega)
  omega
theorem dread_is (k : Nat) (S : List UInt8) (r : Rdr) (x : RefRdr) (h : RR S r x) (hS : S.length < 5000) (hk : 5000 < k) (hk2 : k < 1000000) :
    ∃ (s : DSet) (r' : Rdr) (x' : RefRdr), dots_Read.f k r = some (s, r') ∧ ref06_Read.f k x = some (s, x') ∧ RR S r' x' ∧ s.2.length ≤ S.length ∧ s.1.length = 16 ∧ (x'.2.2 = 0 → Can s) := by
  obtain ⟨v, r1, x1, e1, e2, h1, hv, hvo⟩ := vread_is k S r x h (by omega) (by omega)
  obtain ⟨l, r2, x2, e3, e4, h2, hl, hlm⟩ := lread_is k S 4096 r1 x1 h1 (by omega) (by omega) (by omega)
  obtain ⟨b1, g1, i1⟩ := dr_is k (v, l) hv hk hk2
  obtain ⟨b2, g2, i2⟩ := rr_is k (v, l) hv hk hk2
  have hbb : b1 = b2 := by rw [Bool.eq_iff_iff, i1, i2]
  subst hbb
  rw [dots_Read.f_eq, ref06_Read.f_eq, e1, e2]
  simp only [bnd_some, e3, e4]
  simp only [g1, g2, bnd_some, fault_is, fail_is, ieq_dec, bnot_dec, br_dec]
  obtain ⟨s2, c1⟩ := r2
  obtain ⟨S2, a2, c2⟩ := x2
  have hb : c1 = c2 := h2.bad
  subst hb
  by_cases hz : c1 = 0
  · subst hz
    simp only [if_true]
    cases b1 with
    | true =>
      have e : bnot true = false := rfl
      simp only [e, br_false, not_true, if_false]
      exact ⟨(v, l), _, _, rfl, rfl, h2, hl, hv, fun _ => (i1.1 rfl).1⟩
    | false =>
      have e : bnot false = true := rfl
      simp only [e, br_true]
      exact ⟨(zarr 16 0, []), _, _, rfl, rfl, h2.fail (e := 2) (by decide) rfl, by simp, rfl, fun hh => by cases hh⟩
  · simp only [hz, not_false_eq_true, if_true, if_false]
    exact ⟨(zarr 16 0, []), _, _, rfl, rfl, h2, by simp, rfl, fun hh => absurd hh hz⟩
end Go.Proofs.YtbiihldcljemfaaGreatDoor
end
section
/- Texts, values, paths: the program and the document read the same. -/
set_option linter.unusedVariables false
set_option linter.unusedSimpArgs false
namespace Go.Proofs.YtbiihldcljemfaaGreatDoor
open Pal
theorem inS_nn {a b c : Nat} (h1 : a ≤ b) (h2 : b ≤ c) : inS (a : Int) (b : Int) (c : Int) = true := by
  show (decide ((0 : Int) ≤ (a : Int)) && decide ((a : Int) ≤ (b : Int)) && decide ((b : Int) ≤ (c : Int))) = true
  rw [decide_eq_true (show (0 : Int) ≤ (a : Int) by omega), decide_eq_true (show (a : Int) ≤ (b : Int) by omega), decide_eq_true (show (b : Int) ≤ (c : Int) by omega)]; rfl
theorem text_is (k : Nat) (S : List UInt8) (r : Rdr) (x : RefRdr) (h : RR S r x) (hS : S.length < 4000000) (hk : 12 < k) :
    ∃ (t : List UInt8) (r' : Rdr) (x' : RefRdr), pack_Reader_Text.f k r = some (t, r') ∧ ref02_Reader_Text.f k x = some (t, x') ∧ RR S r' x' ∧ t.length ≤ S.length := by
  obtain ⟨n, r1, x1, e1, e2, h1, n0, n1, nb⟩ := int_is k S r x h hS hk
  obtain ⟨N, rfl⟩ : ∃ N : Nat, n = (N : Int) := ⟨n.toNat, by omega⟩
  rw [pack_Reader_Text.f_eq, ref02_Reader_Text.f_eq, e1, e2]
  simp only [bnd_some, fine_is, fail_is]
  obtain ⟨s1, b1⟩ := r1
  obtain ⟨S1, a1, c1⟩ := x1
  obtain ⟨q1, q2, q3, q4, q5⟩ := h1
  simp only at q1 q2 q3 q4 q5 nb ⊢
  subst q1; subst q4
  have bt : bnot true = false := rfl
  have bf : bnot false = true := rfl
  by_cases hb : b1 = 0
  case neg =>
    rw [ieq_dec, decide_eq_false hb, bf]
    simp only [br_true, br_false, bf]
    exact ⟨[], (s1, b1), (S1, (a1, b1)), rfl, rfl, ⟨rfl, q2, q3, rfl, q5⟩, by simp⟩
  subst hb
  have hs1 := q5 rfl
  obtain ⟨A, rfl⟩ : ∃ A : Nat, a1 = (A : Int) := ⟨a1.toNat, by omega⟩
  rw [Int.toNat_natCast] at hs1
  have hA : A ≤ S1.length := by omega
  have hlen : s1.length = S1.length - A := by rw [hs1, List.length_drop]
  have hsub : isub .i64 (ilen S1) (A : Int) = (s1.length : Int) := by unfold ilen; rw [isub_s (by omega) (by omega) (by omega) (by omega)]; omega
  have e0 : ieq (0 : Int) 0 = true := rfl
  have d0 : decide ((0 : Int) = 0) = true := rfl
  rw [e0, bt, d0, show ilt (ilen s1) (N : Int) = decide (s1.length < N) from ilt_nn s1.length N, hsub, show ilt (s1.length : Int) (N : Int) = decide (s1.length < N) from ilt_nn s1.length N]
  simp only [br_true, br_false, bt]
  by_cases hn : s1.length < N
  · rw [decide_eq_true hn, br_true, br_true]
    simp only [if_true]
    have d4 : decide ((4 : Int) = 0) = false := rfl
    rw [d4, bf, br_true]
    exact ⟨[], (s1, 4), (S1, ((A : Int), 4)), rfl, rfl, ⟨rfl, q2, q3, rfl, fun h => by cases h⟩, by simp⟩
  · have hadd : iadd .i64 (A : Int) (N : Int) = ((A + N : Nat) : Int) := by rw [iadd_s (by omega) (by omega) (by omega) (by omega)]; omega
    have i1 : inS 0 (N : Int) (ilen s1) = true := inS_nn (a := 0) (b := N) (c := s1.length) (by omega) (by omega)
    have i2 : inS (N : Int) (ilen s1) (ilen s1) = true := inS_nn (a := N) (b := s1.length) (c := s1.length) (by omega) (by omega)
    have i3 : inS (A : Int) ((A + N : Nat) : Int) (ilen S1) = true := inS_nn (a := A) (b := A + N) (c := S1.length) (by omega) (by omega)
    have p1 : piece s1 0 (N : Int) = s1.take N := by unfold piece; simp
    have p2 : piece s1 (N : Int) (ilen s1) = s1.drop N := by unfold piece ilen; rw [Int.toNat_natCast, Int.toNat_natCast, List.take_length]
    have p3 : piece S1 (A : Int) ((A + N : Nat) : Int) = s1.take N := by
      unfold piece; rw [Int.toNat_natCast, Int.toNat_natCast, hs1, List.take_drop]
    rw [decide_eq_false hn, br_false, br_false, i1, br_true, i2, br_true, hadd, i3, br_true, p1, p2, p3]
    refine ⟨s1.take N, (s1.drop N, 0), (S1, (((A + N : Nat) : Int), 0)), rfl, rfl, ⟨rfl, by show (0 : Int) ≤ ((A + N : Nat) : Int); omega, by show ((A + N : Nat) : Int) ≤ (S1.length : Int); omega, rfl, fun _ => ?_⟩, by rw [List.length_take]; omega⟩
    show s1.drop N = S1.drop ((A + N : Nat) : Int).toNat
    rw [Int.toNat_natCast, hs1, List.drop_drop]
theorem pathr_l (k : Nat) (S : List UInt8) (hS : S.length < 5000) (hk : 5000 < k) (hk2 : k < 1000000) (N : Nat) (hN : N ≤ 8) : ∀ (n i : Nat) (p : List Str) (r : Rdr) (x : RefRdr), i ≤ N → N < n + i → p.length = i → (∀ s ∈ p, List.length s < k) → RR S r x →
    ∃ (p' : List Str) (r' : Rdr) (x' : RefRdr), path_Read.l3 k n p (N : Int) (i : Int) r = some (p', r') ∧ ref10_Read.l4 k n (N : Int) p (i : Int) x = some (p', x') ∧ RR S r' x' ∧ p'.length ≤ N ∧ ∀ s ∈ p', List.length s < k
  | 0, i, _, _, _, h, h', _, _, _ => by omega
  | n + 1, i, p, r, x, h, h', hp, hs, hr => by
    rw [path_Read.l3_eq, ref10_Read.l4_eq, ilt_nn]
    by_cases hi : i < N
    · obtain ⟨t, r1, x1, e1, e2, h1, ht⟩ := text_is k S r x hr (by omega) (by omega)
      have e4 : iadd .i64 (i : Int) 1 = ((i + 1 : Nat) : Int) := iadd_nat (by omega)
      rw [decide_eq_true hi, e1, e2, e4]
      simp only [br_true, bnd_some, room1 (show p.length < 4000000 by omega)]
      exact pathr_l k S hS hk hk2 N hN n (i + 1) _ r1 x1 (by omega) (by omega) (by simp [app, hp]) (fun s hs' => by
        simp only [app, List.mem_append, List.mem_singleton] at hs'
        rcases hs' with hs' | rfl
        · exact hs s hs'
        · omega) h1
    · obtain ⟨e, g1, g2⟩ := path_is k p hs (by omega) hk2 (by omega)
      rw [decide_eq_false hi]
      simp only [br_false, bnd_some, g1, g2, fault_is, fail_is, ref02_Reader_Fail.f_eq, ieq_dec, bnot_dec, br_dec]
      obtain ⟨s2, c1⟩ := r
      obtain ⟨S2, a2, c2⟩ := x
      have hb : c1 = c2 := hr.bad
      subst hb
      by_cases hz : c1 = 0
      · subst hz
        simp only [if_true]
        by_cases he : e = 0
        · subst he
          simp only [not_true, if_false, if_true, bnd_some]
          exact ⟨p, _, _, rfl, rfl, hr, by omega, hs⟩
        · simp only [he, not_false_eq_true, if_true, bnd_some]
          exact ⟨[], _, _, rfl, rfl, hr.fail he rfl, by simp, fun s hs => by simp at hs⟩
      · simp only [hz, not_false_eq_true, if_true, if_false]
        exact ⟨[], _, _, rfl, rfl, hr, by simp, fun s hs => by simp at hs⟩
theorem pathr_is (k : Nat) (S : List UInt8) (r : Rdr) (x : RefRdr) (h : RR S r x) (hS : S.length < 5000) (hk : 5000 < k) (hk2 : k < 1000000) :
    ∃ (p : List Str) (r' : Rdr) (x' : RefRdr), path_Read.f k r = some (p, r') ∧ ref10_Read.f k x = some (p, x') ∧ RR S r' x' ∧ p.length ≤ 8 ∧ ∀ s ∈ p, List.length s < k := by
  obtain ⟨n, r1, x1, e1, e2, h1, n0, n1, nm⟩ := many_is k S 8 r x h (by omega) (by omega)
  rw [path_Read.f_eq, ref10_Read.f_eq, e1, e2]
  simp only [bnd_some]
  obtain ⟨N, rfl⟩ : ∃ N : Nat, n = (N : Int) := ⟨n.toNat, by omega⟩
  have hN : N ≤ 8 := by
    by_cases h0 : N = 0
    · omega
    · have := nm (by omega); omega
  obtain ⟨p, r', x', g1, g2, g3, g4, g5⟩ := pathr_l k S hS hk hk2 N hN k 0 [] r1 x1 (by omega) (by omega) rfl (fun s hs => by simp at hs) h1
  exact ⟨p, r', x', g1, g2, g3, by omega, g5⟩
def unf (n : Nat) : Int := if n % 2 = 0 then ((n / 2 : Nat) : Int) else -(((n + 1) / 2 : Nat) : Int)
theorem irem2 (n : Nat) : irem (n : Int) 2 = ((n % 2 : Nat) : Int) := by
  rfl
theorem tdiv2 (q : Nat) : (q : Int).tdiv 2 = ((q / 2 : Nat) : Int) := rfl
theorem unfold_is (k n : Nat) (hn : n < 72057594037927936) : value_Unfold.f k (n : Int) = some (unf n) ∧ ref09_Unfold.f k (n : Int) = some (unf n) := by
  rw [value_Unfold.f_eq, ref09_Unfold.f_eq, irem2]
  unfold unf
  by_cases h : n % 2 = 0
  · have q : iquo .i64 (n : Int) 2 = ((n / 2 : Nat) : Int) := by
      show IntKind.wrap .i64 ((n : Int).tdiv 2) = _
      rw [tdiv2, wrap64 (by omega) (by omega)]
    rw [h, if_pos rfl, q]; exact ⟨rfl, rfl⟩
  · have h1 : n % 2 = 1 := by omega
    have a1 : iadd .i64 (n : Int) 1 = ((n + 1 : Nat) : Int) := iadd_nat (by omega)
    have a2 : isub .i64 0 ((n + 1 : Nat) : Int) = -((n + 1 : Nat) : Int) := by
      show IntKind.wrap .i64 (0 - ((n + 1 : Nat) : Int)) = _
      rw [wrap64 (by omega) (by omega)]; omega
    have a3 : iquo .i64 (-((n + 1 : Nat) : Int)) 2 = -(((n + 1) / 2 : Nat) : Int) := by
      show IntKind.wrap .i64 ((-((n + 1 : Nat) : Int)).tdiv 2) = _
      rw [Int.neg_tdiv, tdiv2, wrap64 (by omega) (by omega)]
    have a4 : iquo .i64 (n : Int) 2 = ((n / 2 : Nat) : Int) := by
      show IntKind.wrap .i64 ((n : Int).tdiv 2) = _
      rw [tdiv2, wrap64 (by omega) (by omega)]
    have a5 : isub .i64 0 ((n / 2 : Nat) : Int) = -((n / 2 : Nat) : Int) := by
      show IntKind.wrap .i64 (0 - ((n / 2 : Nat) : Int)) = _
      rw [wrap64 (by omega) (by omega)]; omega
    have a6 : isub .i64 (-((n / 2 : Nat) : Int)) 1 = -(((n + 1) / 2 : Nat) : Int) := by
      show IntKind.wrap .i64 (-((n / 2 : Nat) : Int) - 1) = _
      rw [wrap64 (by omega) (by omega)]; omega
    rw [h1, if_neg (by decide), a1, a2, a3, a4, a5, a6]; exact ⟨rfl, rfl⟩
theorem valr_is (k : Nat) (S : List UInt8) (r : Rdr) (x : RefRdr) (h : RR S r x) (hS : S.length < 5000) (hk : 5000 < k) (hk2 : k < 1000000) :
    ∃ (v : Val) (r' : Rdr) (x' : RefRdr), value_Read.f k r = some (v, r') ∧ ref09_Read.f k x = some (v, x') ∧ RR S r' x' ∧ v.2.2.length < k := by
  obtain ⟨n, r1, x1, e1, e2, h1, n0, n1, nb⟩ := int_is k S r x h (by omega) (by omega)
  rw [value_Read.f_eq, ref09_Read.f_eq, e1, e2]
  simp only [bnd_some]
  have fin : ∀ (v : Val) (r2 : Rdr) (x2 : RefRdr), RR S r2 x2 → v.2.2.length < k → ∃ (v' : Val) (r' : Rdr) (x' : RefRdr),
      (bnd (pack_Reader_Fault.f k r2) fun q => br (ieq q.1 0) (bnd (value_Right.f k v) fun q3 => br (bnot q3) (bnd (pack_Reader_Fail.f k 2 q.2) fun q4 => bnd (pack_Reader_Fault.f k q4.2) fun q5 => br (bnot (ieq q5.1 0)) (some ((0, (0, [])), q5.2)) (some (v, q5.2))) (bnd (pack_Reader_Fault.f k q.2) fun q6 => br (bnot (ieq q6.1 0)) (some ((0, (0, [])), q6.2)) (some (v, q6.2)))) (bnd (pack_Reader_Fault.f k q.2) fun q7 => br (bnot (ieq q7.1 0)) (some ((0, (0, [])), q7.2)) (some (v, q7.2)))) = some (v', r') ∧
      (br (ieq x2.2.2 0) (bnd (ref09_Right.f k v) fun q2 => br (bnot q2) (some ((0, (0, [])), (x2.1, (x2.2.1, 2)))) (br (bnot (ieq x2.2.2 0)) (some ((0, (0, [])), x2)) (some (v, x2)))) (br (bnot (ieq x2.2.2 0)) (some ((0, (0, [])), x2)) (some (v, x2)))) = some (v', x') ∧ RR S r' x' ∧ v'.2.2.length < k := by
    intro v r2 x2 h2 hv
    obtain ⟨b, g1, g2⟩ := val_is k v (by omega) hv hk2
    simp only [bnd_some, g1, g2, fault_is, fail_is, ieq_dec, bnot_dec, br_dec]
    obtain ⟨s2, c1⟩ := r2
    obtain ⟨S2, a2, c2⟩ := x2
    have hb : c1 = c2 := h2.bad
    subst hb
    by_cases hz : c1 = 0
    · subst hz
      simp only [if_true]
      cases b with
      | true =>
        have e : bnot true = false := rfl
        simp only [e, br_false, not_true, if_false]
        exact ⟨v, _, _, rfl, rfl, h2, hv⟩
      | false =>
        have e : bnot false = true := rfl
        simp only [e, br_true]
        exact ⟨(0, (0, [])), _, _, rfl, rfl, h2.fail (e := 2) (by decide) rfl, by show 0 < k; omega⟩
    · simp only [hz, not_false_eq_true, if_true, if_false]
      exact ⟨(0, (0, [])), _, _, rfl, rfl, h2, by show 0 < k; omega⟩
  cases ieq n 2 with
  | true =>
    obtain ⟨t, r2, x2, e3, e4, h2, ht⟩ := text_is k S r1 x1 h1 (by omega) (by omega)
    simp only [br_true]
    rw [e3, e4]
    simp only [bnd_some]
    exact fin (n, (0, t)) r2 x2 h2 (by show t.length < k; omega)
  | false =>
    obtain ⟨m, r2, x2, e3, e4, h2, m0, m1, mb⟩ := int_is k S r1 x1 h1 (by omega) (by omega)
    obtain ⟨M, rfl⟩ : ∃ M : Nat, m = (M : Int) := ⟨m.toNat, by omega⟩
    obtain ⟨u1, u2⟩ := unfold_is k M (by omega)
    simp only [br_false]
    rw [e3, e4]
    simp only [bnd_some]
    rw [u1, u2]
    simp only [bnd_some]
    exact fin (n, (unf M, [])) r2 x2 h2 (by show 0 < k; omega)
end Go.Proofs.YtbiihldcljemfaaGreatDoor
end
section
/- Operations: the end of reading one is the same in the program and the document. -/
set_option linter.unusedVariables false
set_option linter.unusedSimpArgs false
namespace Go.Proofs.YtbiihldcljemfaaGreatDoor
open Pal
theorem op_fin (k : Nat) (S : List UInt8) (hk : 10 < k) (hk2 : k < 1000000) (o : Op) (so : SizO k o) (r2 : Rdr) (x2 : RefRdr) (h2 : RR S r2 x2) : ∃ (o' : Op) (r' : Rdr) (x' : RefRdr),
    (bnd (pack_Reader_Fault.f k r2) fun q => br (ieq q.1 0) (bnd (op_Check.f k o) fun q3 => bnd (pack_Reader_Fail.f k q3 q.2) fun q4 => bnd (pack_Reader_Fault.f k q4.2) fun q5 => br (bnot (ieq q5.1 0)) (some ((0, ([], ((0, (0, [])), (0, [])))), q5.2)) (some (o, q5.2))) (bnd (pack_Reader_Fault.f k q.2) fun q7 => br (bnot (ieq q7.1 0)) (some ((0, ([], ((0, (0, [])), (0, [])))), q7.2)) (some (o, q7.2)))) = some (o', r') ∧
    (br (ieq x2.2.2 0) (bnd (ref11_Check.f k o) fun q2 => bnd (ref02_Reader_Fail.f k q2 x2) fun q3 => br (bnot (ieq q3.2.2.2 0)) (some ((0, ([], ((0, (0, [])), (0, [])))), q3.2)) (some (o, q3.2))) (br (bnot (ieq x2.2.2 0)) (some ((0, ([], ((0, (0, [])), (0, [])))), x2)) (some (o, x2)))) = some (o', x') ∧ RR S r' x' ∧ SizO k o' := by
  have hz0 : SizO k (0, ([], ((0, (0, [])), (0, [])))) := ⟨fun s hs => by simp at hs, by show 0 < k; omega, by show 0 < k; omega, by show 0 < k; omega⟩
  obtain ⟨e, g1, g2⟩ := op_is k o so.path so.names so.val so.seen hk hk2
  simp only [bnd_some, g1, g2, fault_is, fail_is, ref02_Reader_Fail.f_eq, ieq_dec, bnot_dec, br_dec]
  obtain ⟨s2, c1⟩ := r2
  obtain ⟨S2, a2, c2⟩ := x2
  have hb : c1 = c2 := h2.bad
  subst hb
  by_cases hz : c1 = 0
  · subst hz
    simp only [if_true, bnd_some]
    by_cases he : e = 0
    · subst he
      simp only [not_true, if_false]
      exact ⟨o, _, _, rfl, rfl, h2, so⟩
    · simp only [he, not_false_eq_true, if_true]
      exact ⟨_, _, _, rfl, rfl, h2.fail he rfl, hz0⟩
  · simp only [hz, not_false_eq_true, if_true, if_false]
    exact ⟨_, _, _, rfl, rfl, h2, hz0⟩
theorem seen_both (k : Nat) (S : List UInt8) (hS : S.length < 5000) (hk : 5000 < k) (N : Nat) (hN : N ≤ S.length) (K : Int) (P : List Str) (V : Val) (A : Int) (z1 : Int) (z2 : List Str) (z3 : Val) (z4 : Int) (z5 : List (Dot × Int)) : ∀ (n i : Nat) (l : List (Dot × Int)) (r : Rdr) (x : RefRdr), i ≤ N → N < n + i → l.length = i → RR S r x →
    ∃ (l' : List (Dot × Int)) (r' : Rdr) (x' : RefRdr), op_seen.l3 k n l (N : Int) (i : Int) r = some (l', r') ∧ l'.length ≤ N ∧ RR S r' x' ∧
      ref11_Read.l13 k n (N : Int) (i : Int) z1 z2 z3 z4 z5 K P V A l x = br (ieq x'.2.2 0) (bnd (ref11_Check.f k (K, (P, (V, (A, l'))))) fun q2 => bnd (ref02_Reader_Fail.f k q2 x') fun q3 => br (bnot (ieq q3.2.2.2 0)) (some ((0, ([], ((0, (0, [])), (0, [])))), q3.2)) (some ((K, (P, (V, (A, l')))), q3.2))) (br (bnot (ieq x'.2.2 0)) (some ((0, ([], ((0, (0, [])), (0, [])))), x')) (some ((K, (P, (V, (A, l')))), x')))
  | 0, i, _, _, _, h, h', _, _ => by omega
  | n + 1, i, l, r, x, h, h', hl, hr => by
    rw [op_seen.l3_eq, ref11_Read.l13_eq, ilt_nn]
    by_cases hi : i < N
    · obtain ⟨d, r1, x1, e1, e2, h1, _⟩ := dotread_is k S r x hr (by omega) (by omega)
      obtain ⟨c, r2, x2, e3, e5, h2, _, _, _⟩ := int_is k S r1 x1 h1 (by omega) (by omega)
      have e4 : iadd .i64 (i : Int) 1 = ((i + 1 : Nat) : Int) := iadd_nat (by omega)
      rw [decide_eq_true hi, e1, e2, e4]
      simp only [br_true, bnd_some]
      rw [e3, e5]
      simp only [bnd_some, room1 (show l.length < 4000000 by omega), br_true]
      exact seen_both k S hS hk N hN K P V A z1 z2 z3 z4 z5 n (i + 1) _ r2 x2 (by omega) (by omega) (by simp [app, hl]) h2
    · rw [decide_eq_false hi]
      exact ⟨l, r, x, rfl, by omega, hr, rfl⟩
end Go.Proofs.YtbiihldcljemfaaGreatDoor
end
section
/- An operation is read: the program and the document do the same. -/
set_option linter.unusedVariables false
set_option linter.unusedSimpArgs false
namespace Go.Proofs.YtbiihldcljemfaaGreatDoor
open Pal
theorem siz_of (k : Nat) (K : Int) (p : List Str) (v : Val) (A : Int) (l : List (Dot × Int)) (hp : p.length < k) (hs : ∀ s ∈ p, List.length s < k) (hv : v.2.2.length < k) (hl : l.length < k) : SizO k (K, (p, (v, (A, l)))) := ⟨hs, hp, hv, hl⟩
set_option maxHeartbeats 4000000 in
theorem opr_is (k : Nat) (S : List UInt8) (r : Rdr) (x : RefRdr) (h : RR S r x) (hS : S.length < 5000) (hk : 5000 < k) (hk2 : k < 1000000) :
    ∃ (o : Op) (r' : Rdr) (x' : RefRdr), op_Read.f k r = some (o, r') ∧ ref11_Read.f k x = some (o, x') ∧ RR S r' x' ∧ SizO k o := by
  obtain ⟨K, r1, x1, e1, e2, h1, n0, n1, nb⟩ := int_is k S r x h (by omega) (by omega)
  rw [op_Read.f_eq, ref11_Read.f_eq, e1, e2]
  simp only [bnd_some]
  by_cases h0 : K = 0
  · subst h0
    exact ⟨(0, ([], ((0, (0, [])), (0, [])))), r1, x1, rfl, rfl, h1, siz_of k 0 [] (0, (0, [])) 0 [] (by show 0 < k; omega) (fun s hs => by simp at hs) (by show 0 < k; omega) (by show 0 < k; omega)⟩
  rw [show ieq K 0 = false from by rw [ieq_dec]; exact decide_eq_false h0]
  simp only [br_false]
  obtain ⟨p, r2, x2, e3, e4, h2, hp, hps⟩ := pathr_is k S r1 x1 h1 hS hk hk2
  rw [e3, e4]
  simp only [bnd_some]
  have hpk : p.length < k := by omega
  have hz : (0 : Nat) < k := by omega
  have fin := fun (K : Int) (v : Val) (A : Int) (l : List (Dot × Int)) (hv : v.2.2.length < k) (hl : l.length < k) (r3 : Rdr) (x3 : RefRdr) (h3 : RR S r3 x3) => op_fin k S (by omega) hk2 (K, (p, (v, (A, l)))) (siz_of k K p v A l hpk hps hv hl) r3 x3 h3
  have seen : ∀ (K : Int) (v : Val) (A : Int) (hv : v.2.2.length < k) (r3 : Rdr) (x3 : RefRdr) (h3 : RR S r3 x3), ∃ (o : Op) (r' : Rdr) (x' : RefRdr),
      (bnd (op_seen.f k r3) fun r10 => bnd (pack_Reader_Fault.f k r10.2) fun q => br (ieq q.1 0) (bnd (op_Check.f k (K, (p, (v, (A, r10.1))))) fun q3 => bnd (pack_Reader_Fail.f k q3 q.2) fun q4 => bnd (pack_Reader_Fault.f k q4.2) fun q5 => br (bnot (ieq q5.1 0)) (some ((0, ([], ((0, (0, [])), (0, [])))), q5.2)) (some ((K, (p, (v, (A, r10.1)))), q5.2))) (bnd (pack_Reader_Fault.f k q.2) fun q7 => br (bnot (ieq q7.1 0)) (some ((0, ([], ((0, (0, [])), (0, [])))), q7.2)) (some ((K, (p, (v, (A, r10.1)))), q7.2)))) = some (o, r') ∧
      (bnd (ref02_Reader_Many.f k 256 x3) fun r5 => ref11_Read.l13 k k r5.1 0 0 [] (0, (0, [])) 0 [] K p v A [] r5.2) = some (o, x') ∧ RR S r' x' ∧ SizO k o := by
    intro K v A hv r3 x3 h3
    obtain ⟨n, r4, x4, e5, e6, h4, m0, m1, mm⟩ := many_is k S 256 r3 x3 h3 (by omega) (by omega)
    obtain ⟨N, rfl⟩ : ∃ N : Nat, n = (N : Int) := ⟨n.toNat, by omega⟩
    obtain ⟨l, r5, x5, g1, g2, g3, g4⟩ := seen_both k S hS hk N (by omega) K p v A 0 [] (0, (0, [])) 0 [] k 0 [] r4 x4 (by omega) (by omega) rfl h4
    rw [show ((0 : Nat) : Int) = 0 from rfl] at g1 g4
    obtain ⟨o, r6, x6, f1, f2, f3, f4⟩ := fin K v A l hv (by omega) r5 x5 g3
    rw [op_seen.f_eq, e5, e6]
    simp only [bnd_some]
    rw [g1, g4]
    simp only [bnd_some]
    exact ⟨o, r6, x6, f1, f2, f3, f4⟩
  by_cases c3 : K = 3
  · subst c3
    obtain ⟨m, r3, x3, e5, e6, h3, m0, m1, mb⟩ := int_is k S r2 x2 h2 (by omega) (by omega)
    obtain ⟨M, rfl⟩ : ∃ M : Nat, m = (M : Int) := ⟨m.toNat, by omega⟩
    obtain ⟨u1, u2⟩ := unfold_is k M (by omega)
    simp only [show ieq (3 : Int) 1 = false from rfl, show ieq (3 : Int) 2 = false from rfl, show ieq (3 : Int) 3 = true from rfl, show ieq (3 : Int) 4 = false from rfl, show ieq (3 : Int) 5 = false from rfl, br_true, br_false]
    rw [e5, e6]
    simp only [bnd_some]
    rw [u1, u2]
    simp only [bnd_some]
    exact fin 3 (0, (0, [])) (unf M) [] hz hz r3 x3 h3
  by_cases c1 : K = 1
  · subst c1
    obtain ⟨v, r3, x3, e5, e6, h3, hv⟩ := valr_is k S r2 x2 h2 hS hk hk2
    simp only [show ieq (1 : Int) 1 = true from rfl, show ieq (1 : Int) 2 = false from rfl, show ieq (1 : Int) 3 = false from rfl, show ieq (1 : Int) 4 = false from rfl, show ieq (1 : Int) 5 = false from rfl, br_true, br_false]
    rw [e5, e6]
    simp only [bnd_some]
    exact seen 1 v 0 hv r3 x3 h3
  by_cases c2 : K = 2
  · subst c2
    obtain ⟨v, r3, x3, e5, e6, h3, hv⟩ := valr_is k S r2 x2 h2 hS hk hk2
    simp only [show ieq (2 : Int) 1 = false from rfl, show ieq (2 : Int) 2 = true from rfl, show ieq (2 : Int) 3 = false from rfl, show ieq (2 : Int) 4 = false from rfl, show ieq (2 : Int) 5 = false from rfl, br_true, br_false]
    rw [e5, e6]
    simp only [bnd_some]
    exact fin 2 v 0 [] hv hz r3 x3 h3
  by_cases c4 : K = 4
  · subst c4
    obtain ⟨v, r3, x3, e5, e6, h3, hv⟩ := valr_is k S r2 x2 h2 hS hk hk2
    simp only [show ieq (4 : Int) 1 = false from rfl, show ieq (4 : Int) 2 = false from rfl, show ieq (4 : Int) 3 = false from rfl, show ieq (4 : Int) 4 = true from rfl, show ieq (4 : Int) 5 = false from rfl, br_true, br_false]
    rw [e5, e6]
    simp only [bnd_some]
    exact seen 4 v 0 hv r3 x3 h3
  by_cases c5 : K = 5
  · subst c5
    simp only [show ieq (5 : Int) 1 = false from rfl, show ieq (5 : Int) 2 = false from rfl, show ieq (5 : Int) 3 = false from rfl, show ieq (5 : Int) 4 = false from rfl, show ieq (5 : Int) 5 = true from rfl, br_true, br_false]
    exact seen 5 (0, (0, [])) 0 hz r2 x2 h2
  · have f : ∀ c : Int, K ≠ c → ieq K c = false := fun c hc => by rw [ieq_dec]; exact decide_eq_false hc
    simp only [f 1 c1, f 2 c2, f 3 c3, f 4 c4, f 5 c5, br_false]
    exact fin K (0, (0, [])) 0 [] hz hz r2 x2 h2
end Go.Proofs.YtbiihldcljemfaaGreatDoor
end
section
/- Counts: rows of dots with numbers, in order; joined, put, looked up. Plain facts. -/
namespace Go.Proofs.YtbiihldcljemfaaGreatDoor
open Pal
abbrev Undo := Dot × Int
def rightU (u : Undo) : Bool := rightD u.1 && decide (1 ≤ u.2 ∧ u.2 ≤ 64)
structure CanU (l : List Undo) : Prop where
  rt : ∀ u ∈ l, rightU u = true
  srt : l.Pairwise (fun a b => dotLt a.1 b.1 = true)
theorem CanU.nil : CanU [] := ⟨fun u hu => by simp at hu, List.Pairwise.nil⟩
theorem CanU.cons {u : Undo} {l : List Undo} (h : CanU l) (h1 : rightU u = true) (h2 : ∀ v ∈ l, dotLt u.1 v.1 = true) : CanU (u :: l) :=
  ⟨fun v hv => by rcases List.mem_cons.1 hv with rfl | hv; exact h1; exact h.rt v hv, List.pairwise_cons.2 ⟨h2, h.srt⟩⟩
theorem dotLt_trans {a b c : Dot} (h1 : dotLt a b = true) (h2 : dotLt b c = true) : dotLt a c = true := dotLt_swo.trans _ _ _ h1 h2
end Go.Proofs.YtbiihldcljemfaaGreatDoor
end
section
/- Transactions in order, and states: plain facts. -/
namespace Go.Proofs.YtbiihldcljemfaaGreatDoor
open Pal
abbrev Sta := List Txn × (List (Dot × Int) × (DSet × (DSet × List (List Dot))))
abbrev Dlt := List Txn × (List (Dot × Int) × List Dot)
structure CanT (l : List Txn) : Prop where
  rt : ∀ t ∈ l, rightD t.1 = true
  srt : l.Pairwise (fun a b => dotLt a.1 b.1 = true)
theorem CanT.nil : CanT [] := ⟨fun u hu => by simp at hu, List.Pairwise.nil⟩
theorem CanT.cons {u : Txn} {l : List Txn} (h : CanT l) (h1 : rightD u.1 = true) (h2 : ∀ v ∈ l, dotLt u.1 v.1 = true) : CanT (u :: l) :=
  ⟨fun v hv => by rcases List.mem_cons.1 hv with rfl | hv; exact h1; exact h.rt v hv, List.pairwise_cons.2 ⟨h2, h.srt⟩⟩
structure LenS (n : Nat) (s : Sta) : Prop where
  tx : s.1.length ≤ n
  un : s.2.1.length ≤ n
  kn : s.2.2.1.2.length ≤ n
  se : s.2.2.2.1.2.length ≤ n
  re : ∀ l ∈ s.2.2.2.2, l.length ≤ n
theorem LenS.mono {n m : Nat} {s : Sta} (h : LenS n s) (hnm : n ≤ m) : LenS m s :=
  ⟨Nat.le_trans h.tx hnm, Nat.le_trans h.un hnm, Nat.le_trans h.kn hnm, Nat.le_trans h.se hnm, fun l hl => Nat.le_trans (h.re l hl) hnm⟩
structure LenD (n : Nat) (d : Dlt) : Prop where
  tx : d.1.length ≤ n
  un : d.2.1.length ≤ n
  se : d.2.2.length ≤ n
end Go.Proofs.YtbiihldcljemfaaGreatDoor
end
section
/- What the program's tally, and the document's, come to. -/
namespace Go.Proofs.YtbiihldcljemfaaGreatDoor
open Pal
theorem rone_is (k : Nat) (u : Undo) : ref08_one.f k u = some (rightU u) := by
  rw [ref08_one.f_eq, rright_is]
  simp only [bnd_some]
  unfold rightU
  cases rightD u.1 with
  | false => rfl
  | true =>
    simp only [br_true, ile_dec, br_dec, Bool.true_and]
    by_cases h : 1 ≤ u.2
    · rw [if_pos h]; simp [h]
    · rw [if_neg h]; simp [h]
theorem deqU (a b : Undo) : deq tUndo a b = decide (a = b) := deq_dec (τ := tUndo) rfl a b
theorem canU_iff {l : List Undo} : CanU l ↔ ∀ j (h : j < l.length), rightU l[j] = true ∧ ∀ h0 : 0 < j, dotLt (l[j - 1]'(by omega)).1 l[j].1 = true := by
  constructor
  · intro h j hj
    exact ⟨h.rt _ (List.getElem_mem hj), fun h0 => List.pairwise_iff_getElem.1 h.srt (j - 1) j (by omega) hj (by omega)⟩
  · intro h
    refine ⟨fun u hu => ?_, List.pairwise_iff_getElem.2 fun i j hi hj hij => ?_⟩
    · obtain ⟨j, hj, rfl⟩ := List.mem_iff_getElem.1 hu
      exact (h j hj).1
    · have key : ∀ d j (hj : j < l.length) (hd : d + 1 ≤ j), dotLt (l[j - (d + 1)]'(by omega)).1 l[j].1 = true := by
        intro d
        induction d with
        | zero => intro j hj hd; exact (h j hj).2 (by omega)
        | succ d ih =>
          intro j hj hd
          have h1 := ih j hj (by omega)
          have h2 := (h (j - (d + 1)) (by omega)).2 (by omega)
          have e : j - (d + 1) - 1 = j - (d + 1 + 1) := by omega
          simp only [e] at h2
          exact dotLt_trans h2 h1
      have := key (j - i - 1) j hj (by omega)
      have e : j - (j - i - 1 + 1) = i := by omega
      simpa only [e] using this
def okU (l : List Undo) (j : Nat) : Prop := ∀ h : j < l.length, rightU l[j] = true ∧ ∀ h0 : 0 < j, dotLt (l[j - 1]'(by omega)).1 l[j].1 = true
theorem rrightU_is (k : Nat) (l : List Undo) (hl : l.length < k) (hk : k < 1000000) : ∃ b, ref08_Right.f k l = some b ∧ (b = true ↔ CanU l) := by
  obtain ⟨b, hb, hbi⟩ := loop_all' l.length (fun n i => ref08_Right.l2 k n l (i : Int)) (okU l) (fun n i hi => by
    simp only [ref08_Right.l2_eq, ilt_nat, inL_nat, natOf_nat, hi, decide_true, br_true, rd_at' (e := tUndo) hi, rone_is, bnd_some]
    cases hu : rightU l[i] with
    | false => exact .inr ⟨fun h => (by have := (h hi).1; rw [hu] at this; cases this), rfl⟩
    | true =>
      have e1 : bnot true = false := rfl
      have e2 : ilt 0 (i : Int) = decide (0 < i) := ilt_nn 0 i
      rw [e1, e2, iadd_nat (by omega)]
      simp only [br_false]
      by_cases h0 : 0 < i
      · have hi1 : i - 1 < l.length := by omega
        have e3 : isub .i64 (i : Int) 1 = ((i - 1 : Nat) : Int) := by rw [isub_s (by omega) (by omega) (by omega) (by omega)]; omega
        rw [e3, inL_nat, natOf_nat, rd_at' (e := tUndo) hi1, rcmp_is]
        simp only [h0, hi1, decide_true, br_true, bnd_some, cmp_m1]
        cases hd : dotLt l[i - 1].1 l[i].1 with
        | true => exact .inl ⟨fun _ => ⟨hu, fun _ => hd⟩, rfl⟩
        | false => exact .inr ⟨fun h => (by have := (h hi).2 h0; rw [hd] at this; cases this), rfl⟩
      · simp only [h0, decide_false, br_false]
        exact .inl ⟨fun _ => ⟨hu, fun h => absurd h h0⟩, trivial⟩) (fun n => by
    simp only [ref08_Right.l2_eq, ilt_nat, Nat.lt_irrefl, decide_false, br_false]) k 0 (by omega) (by omega)
  rw [ref08_Right.f_eq]
  refine ⟨b, hb, hbi.trans ?_⟩
  rw [canU_iff]
  exact ⟨fun h j hj => h j (by omega) hj hj, fun h j _ _ hj => h j hj⟩
theorem tcmp_is (k : Nat) (u v : Undo) (h3 : 3 ≤ k) : tally_compare.f k u v = some (cmpD u.1 v.1) := by
  obtain ⟨q, rfl⟩ : ∃ q, k = q + 3 := ⟨k - 3, by omega⟩
  rw [tally_compare.f_eq, cmpD_is]; rfl
theorem rsameU_is (k : Nat) (a b : List Undo) (hl : a.length < k) (hk : k < 1000000) : ref08_Same.f k a b = some (decide (a = b)) := by
  rw [ref08_Same.f_eq, ieq_len, bnot_dec]
  by_cases h : a.length = b.length
  · simp only [h, not_true, decide_false, br_false]
    exact loop_same a b h (fun n i => ref08_Same.l4 k n a b (i : Int)) (fun n i hi hi' => by
      simp only [ref08_Same.l4_eq, ilt_nat, inL_nat, natOf_nat, hi, hi', decide_true, br_true, rd_at' (e := tUndo) hi, rd_at' (e := tUndo) hi', deqU, bnot_dec, br_dec, iadd_nat (show i < 4611686018427387904 by omega)]
      by_cases e : a[i] = b[i] <;> simp [e]) (fun n => by simp only [ref08_Same.l4_eq, ilt_nat, Nat.lt_irrefl, decide_false, br_false]) k (by omega)
  · have : a ≠ b := fun e => h (by rw [e])
    simp only [h, this, not_false_eq_true, decide_true, decide_false, br_true]
end Go.Proofs.YtbiihldcljemfaaGreatDoor
end
section
/- States: what the program's functions, and the document's, come to. -/
namespace Go.Proofs.YtbiihldcljemfaaGreatDoor
open Pal
theorem deqVal (a b : Val) : deq tValue a b = decide (a = b) := deq_dec (τ := tValue) rfl a b
theorem rsameStr_is (k : Nat) (a b : List Str) (hl : a.length < k) (hk : k < 1000000) : ref03_Same.f k a b = some (decide (a = b)) := by
  rw [ref03_Same.f_eq, ieq_len, bnot_dec]
  by_cases h : a.length = b.length
  · simp only [h, not_true, decide_false, br_false]
    exact loop_same a b h (fun n i => ref03_Same.l4 k n a b (i : Int)) (fun n i hi hi' => by
      simp only [ref03_Same.l4_eq, ilt_nat, inL_nat, natOf_nat, hi, hi', decide_true, br_true, rd_at' (e := .str) hi, rd_at' (e := .str) hi', seq_dec, bnot_dec, br_dec, iadd_nat (show i < 4611686018427387904 by omega)]
      by_cases e : a[i] = b[i] <;> simp [e]) (fun n => by simp only [ref03_Same.l4_eq, ilt_nat, Nat.lt_irrefl, decide_false, br_false]) k (by omega)
  · have : a ≠ b := fun e => h (by rw [e])
    simp only [h, this, not_false_eq_true, decide_true, decide_false, br_true]
theorem op_eq (a b : Op) : a = b ↔ a.1 = b.1 ∧ a.2.2.1 = b.2.2.1 ∧ a.2.2.2.1 = b.2.2.2.1 ∧ a.2.1 = b.2.1 ∧ a.2.2.2.2 = b.2.2.2.2 := by
  obtain ⟨a1, a2, a3, a4, a5⟩ := a; obtain ⟨b1, b2, b3, b4, b5⟩ := b
  simp only [Prod.mk.injEq]
  exact ⟨fun ⟨h1, h2, h3, h4, h5⟩ => ⟨h1, h3, h4, h2, h5⟩, fun ⟨h1, h3, h4, h2, h5⟩ => ⟨h1, h2, h3, h4, h5⟩⟩
structure LenO (n : Nat) (o : Op) : Prop where
  path : o.2.1.length < n
  seen : o.2.2.2.2.length < n
theorem rsameOp_is (k : Nat) (a b : Op) (hl : LenO k a) (hk : k < 1000000) : ref11_Same.f k a b = some (decide (a = b)) := by
  have := hl.seen
  rw [ref11_Same.f_eq, rsameStr_is k a.2.1 b.2.1 hl.path hk]
  simp only [ieq_dec, deqVal, bnot_dec, bnd_some, br_dec, ilen, Int.natCast_inj]
  rw [show decide (a = b) = decide (a.1 = b.1 ∧ a.2.2.1 = b.2.2.1 ∧ a.2.2.2.1 = b.2.2.2.1 ∧ a.2.1 = b.2.1 ∧ a.2.2.2.2 = b.2.2.2.2) from decide_eq_decide.2 (op_eq a b)]
  by_cases h1 : a.1 = b.1
  · by_cases h2 : a.2.2.1 = b.2.2.1
    · by_cases h3 : a.2.2.2.1 = b.2.2.2.1
      · by_cases h4 : a.2.1 = b.2.1
        · by_cases h5 : a.2.2.2.2.length = b.2.2.2.2.length
          · simp only [h1, h2, h3, h4, h5, not_true, if_false, true_and]
            exact loop_same a.2.2.2.2 b.2.2.2.2 h5 (fun n i => ref11_Same.l4 k n (i : Int) a b) (fun n i hi hi' => by
              simp only [ref11_Same.l4_eq, ilt_nat, inL_nat, natOf_nat, hi, hi', decide_true, br_true, rd_at' (e := tUndo) hi, rd_at' (e := tUndo) hi', deqU, bnot_dec, br_dec, iadd_nat (show i < 4611686018427387904 by omega)]
              by_cases e : a.2.2.2.2[i] = b.2.2.2.2[i] <;> simp [e]) (fun n => by simp only [ref11_Same.l4_eq, ilt_nat, Nat.lt_irrefl, decide_false, br_false]) k (by omega)
          · have : a.2.2.2.2 ≠ b.2.2.2.2 := fun e => h5 (by rw [e])
            simp [h1, h2, h3, h4, h5, this]
        · simp [h1, h2, h3, h4]
      · simp [h1, h2, h3]
    · simp [h1, h2]
  · simp [h1]
theorem deqDot (a b : Dot) : deq tDot a b = decide (a = b) := deqD a b
theorem deqBool (a b : Bool) : deq .bool a b = decide (a = b) := by cases a <;> cases b <;> rfl
theorem txn_eq (a b : Txn) : a = b ↔ a.1 = b.1 ∧ a.2.1 = b.2.1 ∧ a.2.2.1 = b.2.2.1 ∧ a.2.2.2.1 = b.2.2.2.1 ∧ a.2.2.2.2 = b.2.2.2.2 := by
  obtain ⟨a1, a2, a3, a4, a5⟩ := a; obtain ⟨b1, b2, b3, b4, b5⟩ := b
  simp only [Prod.mk.injEq]
structure LenT (n : Nat) (t : Txn) : Prop where
  ops : t.2.2.2.2.length < n
  each : ∀ o ∈ t.2.2.2.2, LenO n o
theorem rsameTxn_is (k : Nat) (a b : Txn) (hl : LenT k a) (hk : k < 1000000) : ref12_Same.f k a b = some (decide (a = b)) := by
  have := hl.ops
  rw [ref12_Same.f_eq]
  simp only [ieq_dec, deqDot, deqBool, bnot_dec, bnd_some, br_dec, ilen, Int.natCast_inj]
  rw [show decide (a = b) = decide (a.1 = b.1 ∧ a.2.1 = b.2.1 ∧ a.2.2.1 = b.2.2.1 ∧ a.2.2.2.1 = b.2.2.2.1 ∧ a.2.2.2.2 = b.2.2.2.2) from decide_eq_decide.2 (txn_eq a b)]
  by_cases h1 : a.1 = b.1
  · by_cases h2 : a.2.1 = b.2.1
    · by_cases h3 : a.2.2.1 = b.2.2.1
      · by_cases h4 : a.2.2.2.1 = b.2.2.2.1
        · by_cases h5 : a.2.2.2.2.length = b.2.2.2.2.length
          · simp only [h1, h2, h3, h4, h5, not_true, if_false, true_and]
            exact loop_same a.2.2.2.2 b.2.2.2.2 h5 (fun n i => ref12_Same.l4 k n (i : Int) a b) (fun n i hi hi' => by
              simp only [ref12_Same.l4_eq, ilt_nat, inL_nat, natOf_nat, hi, hi', decide_true, br_true, rd_at' (e := tOp) hi, rd_at' (e := tOp) hi', rsameOp_is k _ _ (hl.each _ (List.getElem_mem hi)) hk, bnd_some, bnot_dec, br_dec, iadd_nat (show i < 4611686018427387904 by omega)]
              by_cases e : a.2.2.2.2[i] = b.2.2.2.2[i] <;> simp [e]) (fun n => by simp only [ref12_Same.l4_eq, ilt_nat, Nat.lt_irrefl, decide_false, br_false]) k (by omega)
          · have : a.2.2.2.2 ≠ b.2.2.2.2 := fun e => h5 (by rw [e])
            simp [h1, h2, h3, h4, h5, this]
        · simp [h1, h2, h3, h4]
      · simp [h1, h2, h3]
    · simp [h1, h2]
  · simp [h1]
theorem rallTxn_is (k : Nat) (a b : List Txn) (hl : a.length < k) (he : ∀ t ∈ a, LenT k t) (hk : k < 1000000) : ref12_All.f k a b = some (decide (a = b)) := by
  rw [ref12_All.f_eq, ieq_len, bnot_dec]
  by_cases h : a.length = b.length
  · simp only [h, not_true, decide_false, br_false]
    exact loop_same a b h (fun n i => ref12_All.l4 k n a b (i : Int)) (fun n i hi hi' => by
      simp only [ref12_All.l4_eq, ilt_nat, inL_nat, natOf_nat, hi, hi', decide_true, br_true, rd_at' (e := tTxn) hi, rd_at' (e := tTxn) hi', rsameTxn_is k _ _ (he _ (List.getElem_mem hi)) hk, bnd_some, bnot_dec, br_dec, iadd_nat (show i < 4611686018427387904 by omega)]
      by_cases e : a[i] = b[i] <;> simp [e]) (fun n => by simp only [ref12_All.l4_eq, ilt_nat, Nat.lt_irrefl, decide_false, br_false]) k (by omega)
  · have : a ≠ b := fun e => h (by rw [e])
    simp only [h, this, not_false_eq_true, decide_true, decide_false, br_true]
theorem sta_ext (s u : Sta) (hs : s.2.2.2.2.length = 8) (hu : u.2.2.2.2.length = 8) : s = u ↔ (∀ i, 0 ≤ i → i < 8 → s.2.2.2.2[i]? = u.2.2.2.2[i]?) ∧ s.1 = u.1 ∧ s.2.1 = u.2.1 ∧ s.2.2.1 = u.2.2.1 ∧ s.2.2.2.1 = u.2.2.2.1 := by
  obtain ⟨a1, a2, a3, a4, a5⟩ := s; obtain ⟨b1, b2, b3, b4, b5⟩ := u
  simp only at hs hu ⊢
  constructor
  · intro h; injection h with h1 h; injection h with h2 h; injection h with h3 h; injection h with h4 h5
    exact ⟨fun i _ _ => by rw [h5], h1, h2, h3, h4⟩
  · rintro ⟨h5, h1, h2, h3, h4⟩
    have : a5 = b5 := List.ext_getElem? fun i => by
      by_cases hi : i < 8
      · exact h5 i (by omega) hi
      · rw [List.getElem?_eq_none (by omega), List.getElem?_eq_none (by omega)]
    rw [h1, h2, h3, h4, this]
theorem rsameS_is (k : Nat) (s u : Sta) {n : Nat} (ls : LenS n s) (he : ∀ t ∈ s.1, LenT k t) (hs : s.2.2.2.2.length = 8) (hu : u.2.2.2.2.length = 8) (hn : n < k) (h17 : 17 < k) (hk : k < 1000000) : ∃ b, ref22_Same.f k s u = some b ∧ (b = true ↔ s = u) := by
  have := ls.tx; have := ls.un; have := ls.kn; have := ls.se
  rw [ref22_Same.f_eq]
  obtain ⟨b, hb, hbi⟩ := loop_all 8 (fun n i => ref22_Same.l2 k n (i : Int) s u) (fun i => s.2.2.2.2[i]? = u.2.2.2.2[i]?) (fun n' i hi => by
    have e1 : ilt (i : Int) 8 = decide (i < 8) := ilt_nn i 8
    have e2 : inB (i : Int) 8 = decide (i < 8) := inB_nat i 8
    have hi1 : i < s.2.2.2.2.length := by omega
    have hi2 : i < u.2.2.2.2.length := by omega
    have hlen := ls.re _ (List.getElem_mem hi1)
    have e3 : iadd .i64 (i : Int) 1 = ((i + 1 : Nat) : Int) := iadd_nat (by omega)
    simp only [ref22_Same.l2_eq, e1, e2, hi, decide_true, br_true, natOf_nat, rd_at' (e := .slc tDot) hi1, rd_at' (e := .slc tDot) hi2, reqD k _ _ (show (s.2.2.2.2[i]).length < k by omega) hk, bnd_some, bnot_dec, br_dec, e3]
    by_cases h : s.2.2.2.2[i] = u.2.2.2.2[i]
    · exact .inl ⟨by rw [List.getElem?_eq_getElem hi1, List.getElem?_eq_getElem hi2, h], if_neg (by simpa using h)⟩
    · exact .inr ⟨fun hh => by rw [List.getElem?_eq_getElem hi1, List.getElem?_eq_getElem hi2] at hh; exact h (Option.some.inj hh), if_pos h⟩)
    (some (decide (s.1 = u.1 ∧ s.2.1 = u.2.1 ∧ s.2.2.1 = u.2.2.1 ∧ s.2.2.2.1 = u.2.2.2.1))) (s.1 = u.1 ∧ s.2.1 = u.2.1 ∧ s.2.2.1 = u.2.2.1 ∧ s.2.2.2.1 = u.2.2.2.1) ⟨_, rfl, by simp⟩ (fun n' => by
    have e1 : ilt ((8 : Nat) : Int) 8 = false := rfl
    simp only [ref22_Same.l2_eq, e1, br_false, rallTxn_is k s.1 u.1 (by omega) he hk, rsameU_is k s.2.1 u.2.1 (by omega) hk, rsame_is k s.2.2.1 u.2.2.1 (by omega) hk, rsame_is k s.2.2.2.1 u.2.2.2.1 (by omega) hk, bnd_some, br_dec]
    by_cases h1 : s.1 = u.1 <;> by_cases h2 : s.2.1 = u.2.1 <;> by_cases h3 : s.2.2.1 = u.2.2.1 <;> simp [h1, h2, h3]) k 0 (by omega) (by omega)
  exact ⟨b, hb, hbi.trans (sta_ext s u hs hu).symm⟩
end Go.Proofs.YtbiihldcljemfaaGreatDoor
end
section
/- Which states and deltas the document calls good: what is known of them. -/
namespace Go.Proofs.YtbiihldcljemfaaGreatDoor
open Pal
def risAt (l : List Txn) (j : Nat) : Prop := ∀ h : j + 1 < l.length, dotLt (l[j]'(by omega)).1 l[j + 1].1 = true
theorem ris_iff {l : List Txn} : l.Pairwise (fun a b => dotLt a.1 b.1 = true) ↔ ∀ j, 0 ≤ j → j < l.length - 1 → risAt l j := by
  constructor
  · intro h j h1 h2 hj
    exact List.pairwise_iff_getElem.1 h j (j + 1) (by omega) hj (by omega)
  · intro h
    refine List.pairwise_iff_getElem.2 fun i j hi hj hij => ?_
    have key : ∀ d i (hd : i + d + 1 < l.length), dotLt (l[i]'(by omega)).1 l[i + d + 1].1 = true := by
      intro d
      induction d with
      | zero => intro i hd; exact h i (by omega) (by omega) hd
      | succ d ih =>
        intro i hd
        exact dotLt_trans (ih i (by omega)) (h (i + d + 1) (by omega) (by omega) (by omega))
    have := key (j - i - 1) i (by omega)
    have e : i + (j - i - 1) + 1 = j := by omega
    simpa only [e] using this
theorem rrises_is (k : Nat) (l : List Txn) (hl : l.length < k) (hk : k < 1000000) : ∃ b, ref12_Rises.f k l = some b ∧ (b = true ↔ l.Pairwise (fun a b => dotLt a.1 b.1 = true)) := by
  rw [ref12_Rises.f_eq]
  obtain ⟨b, hb, hbi⟩ := loop_all' (l.length - 1) (fun n i => ref12_Rises.l2 k n l ((i + 1 : Nat) : Int)) (risAt l) (fun n i hi => by
    have hi0 : i < l.length := by omega
    have hi1 : i + 1 < l.length := by omega
    have e3 : isub .i64 ((i + 1 : Nat) : Int) 1 = (i : Int) := by rw [isub_s (by omega) (by omega) (by omega) (by omega)]; omega
    have e4 : iadd .i64 ((i + 1 : Nat) : Int) 1 = ((i + 1 + 1 : Nat) : Int) := iadd_nat (by omega)
    simp only [ref12_Rises.l2_eq, ilt_nat, e3, inL_nat, natOf_nat, hi0, hi1, decide_true, br_true, rd_at' (e := tTxn) hi0, rd_at' (e := tTxn) hi1, rcmp_is, bnd_some, cmp_m1, e4]
    cases hd : dotLt l[i].1 l[i + 1].1 with
    | true => exact .inl ⟨fun _ => hd, rfl⟩
    | false => exact .inr ⟨fun h => (by have := h hi1; rw [hd] at this; cases this), rfl⟩) (fun n => by
    simp only [ref12_Rises.l2_eq, ilt_nat, show ¬ l.length - 1 + 1 < l.length by omega, decide_false, br_false]) k 0 (by omega) (by omega)
  exact ⟨b, hb, hbi.trans ris_iff.symm⟩
def emptyD : DSet := (zarr 16 0, [])
theorem empty_can : Can emptyD := (ofD_can []).1
theorem empty_mem (x : Dot) : ¬ Mem emptyD x := fun h => by
  have := ((ofD_can []).2.1 x).1 h
  simp at this
def dotsOf (l : List Txn) : List Dot := l.map (·.1)
theorem known_isG (k : Nat) (l : List Txn) (hl : l.length + 1 < k) (hk : k < 1000000) : ref22_Known.f k l = some ((dotsOf l).foldl putD emptyD) := by
  rw [ref22_Known.f_eq]
  have key : ∀ n i (s : DSet), i ≤ l.length → l.length < n + i → Can s → s.2.length ≤ i → ref22_Known.l3 k n l (i : Int) (zarr 16 0) [] s = some ((dotsOf (l.drop i)).foldl putD s) := by
    intro n
    induction n with
    | zero => intro i s h h'; omega
    | succ n ih =>
      intro i s h h' hs hsl
      rw [ref22_Known.l3_eq, ilt_nat, inL_nat, natOf_nat]
      by_cases hi : i < l.length
      · have e3 : iadd .i64 (i : Int) 1 = ((i + 1 : Nat) : Int) := iadd_nat (by omega)
        rw [rd_at' (e := tTxn) hi, rput_is k s l[i].1 (by omega) hk hs, e3, List.drop_eq_getElem_cons hi]
        simp only [hi, decide_true, br_true, bnd_some, dotsOf, List.map_cons, List.foldl_cons]
        obtain ⟨a, _, c⟩ := putD_can hs l[i].1
        exact ih (i + 1) _ (by omega) (by omega) a (by omega)
      · rw [List.drop_of_length_le (by omega)]
        simp only [hi, decide_false, br_false, dotsOf, List.map_nil, List.foldl_nil]
  exact key k 0 emptyD (by omega) (by omega) empty_can (by simp [emptyD])
theorem known_is (k : Nat) (l : List Txn) (hl : l.length + 1 < k) (hk : k < 1000000) (hr : ∀ t ∈ l, rightD t.1 = true) : ref22_Known.f k l = some ((dotsOf l).foldl putD emptyD) := known_isG k l hl hk
structure RightS (k : Nat) (s : Sta) : Prop where
  many : s.1.length ≤ 1000
  ris : s.1.Pairwise (fun a b => dotLt a.1 b.1 = true)
  un : CanU s.2.1
  se : Can s.2.2.2.1 ∧ s.2.2.2.1.2.length ≤ 4096
  chk : ∀ t ∈ s.1, ref12_Check.f k t = some 0
  redo : ∀ l ∈ s.2.2.2.2, l.length ≤ 1000 ∧ ∀ d ∈ l, rightD d = true
  kn : Can s.2.2.1 ∧ s.2.2.1.2.length ≤ 4096
  know : s.2.2.1 = (dotsOf s.1).foldl putD emptyD
def chkAt (k : Nat) (l : List Txn) (j : Nat) : Prop := ∀ h : j < l.length, ref12_Check.f k l[j] = some 0
def redoAt (r : List (List Dot)) (j : Nat) : Prop := ∀ h : j < r.length, r[j].length ≤ 1000 ∧ ∀ d ∈ r[j], rightD d = true
def rdAt (l : List Dot) (j : Nat) : Prop := ∀ h : j < l.length, rightD l[j] = true
theorem rdAt_all {l : List Dot} : (∀ j, 0 ≤ j → j < l.length → rdAt l j) ↔ ∀ d ∈ l, rightD d = true := by
  constructor
  · intro h d hd
    obtain ⟨j, hj, rfl⟩ := List.mem_iff_getElem.1 hd
    exact h j (by omega) hj hj
  · intro h j _ hj _; exact h _ (List.getElem_mem hj)
theorem rrightS_isG (k : Nat) (s : Sta) (hv1 : s.2.2.1.1.length = 16) (hv2 : s.2.2.2.1.1.length = 16) (hr8 : s.2.2.2.2.length = 8) (hsh : ∀ t ∈ s.1, ∃ e : Int, ref12_Check.f k t = some e ∧ (e = 0 → rightD t.1 = true)) (hrl : ∀ l ∈ s.2.2.2.2, l.length < k) (hul : s.2.1.length < k) (hk : 5000 < k) (hk2 : k < 1000000) :
    ∃ b, ref22_Right.f k s = some b ∧ (b = true ↔ RightS k s) := by
  rw [ref22_Right.f_eq, show ilt 1000 (ilen s.1) = decide (1000 < s.1.length) from ilt_lenR 1000 s.1]
  by_cases hm : 1000 < s.1.length
  · rw [decide_eq_true hm]; exact ⟨false, rfl, ⟨fun h => (by cases h), fun h => by have := h.many; omega⟩⟩
  rw [decide_eq_false hm]
  obtain ⟨b1, g1, i1⟩ := rrises_is k s.1 (by omega) hk2
  obtain ⟨b2, g2, i2⟩ := rrightU_is k s.2.1 hul hk2
  obtain ⟨b3, g3, i3⟩ := rr_is k s.2.2.2.1 hv2 hk hk2
  obtain ⟨b4, g4, i4⟩ := rr_is k s.2.2.1 hv1 hk hk2
  rw [g1]
  simp only [br_false, bnd_some]
  cases b1 with
  | false => exact ⟨false, rfl, ⟨fun h => (by cases h), fun h => i1.2 h.ris⟩⟩
  | true =>
  have bt : bnot true = false := rfl
  have bf : bnot false = true := rfl
  rw [bt, g2]
  simp only [br_false, bnd_some]
  cases b2 with
  | false => exact ⟨false, rfl, ⟨fun h => (by cases h), fun h => i2.2 h.un⟩⟩
  | true =>
  rw [bt, g3]
  simp only [br_false, bnd_some]
  cases b3 with
  | false => exact ⟨false, rfl, ⟨fun h => (by cases h), fun h => i3.2 h.se⟩⟩
  | true =>
  rw [bt]
  simp only [br_false]
  have tail : (∀ t ∈ s.1, rightD t.1 = true) → ∃ b, (bnd (ref06_Right.f k s.2.2.1) fun r0 => br r0 (bnd (ref22_Known.f k s.1) fun r1 => bnd (ref06_Same.f k s.2.2.1 r1) fun r2 => some r2) (some false)) = some b ∧ (b = true ↔ (Can s.2.2.1 ∧ s.2.2.1.2.length ≤ 4096) ∧ s.2.2.1 = (dotsOf s.1).foldl putD emptyD) := by
    intro hrt
    rw [g4]
    simp only [bnd_some]
    cases b4 with
    | false => exact ⟨false, rfl, ⟨fun h => (by cases h), fun h => i4.2 h.1⟩⟩
    | true =>
      have h4 := i4.1 rfl
      simp only [br_true]
      rw [known_is k s.1 (by omega) hk2 hrt]
      simp only [bnd_some]
      rw [rsame_is k _ _ (by omega) hk2]
      exact ⟨_, rfl, by rw [decide_eq_true_iff]; exact ⟨fun h => ⟨h4, h⟩, fun h => h.2⟩⟩
  have rows : (∀ t ∈ s.1, rightD t.1 = true) → ∃ b, ref22_Right.l9 k k 0 s = some b ∧ (b = true ↔ (∀ j, 0 ≤ j → j < 8 → redoAt s.2.2.2.2 j) ∧ ((Can s.2.2.1 ∧ s.2.2.1.2.length ≤ 4096) ∧ s.2.2.1 = (dotsOf s.1).foldl putD emptyD)) := by
    intro hrt
    refine loop_all 8 (fun n i => ref22_Right.l9 k n (i : Int) s) (redoAt s.2.2.2.2) (fun n i hi => ?_) _ _ (tail hrt) (fun n => ?_) k 0 (by omega) (by omega)
    · have e1 : ilt (i : Int) 8 = decide (i < 8) := ilt_nn i 8
      have e2 : inB (i : Int) 8 = decide (i < 8) := inB_nat i 8
      have hi1 : i < s.2.2.2.2.length := by omega
      have hll := hrl _ (List.getElem_mem hi1)
      have e4 : ilt 1000 (ilen s.2.2.2.2[i]) = decide (1000 < s.2.2.2.2[i].length) := ilt_lenR 1000 s.2.2.2.2[i]
      simp only [ref22_Right.l9_eq, e1, e2, hi, decide_true, br_true, natOf_nat, rd_at' (e := .slc tDot) hi1, e4]
      by_cases hl : 1000 < s.2.2.2.2[i].length
      · rw [decide_eq_true hl]
        exact .inr ⟨fun h => by have := (h hi1).1; omega, rfl⟩
      · rw [decide_eq_false hl]
        simp only [br_false]
        have inner : ∀ q j, j ≤ s.2.2.2.2[i].length → s.2.2.2.2[i].length < q + j → ((∀ p, j ≤ p → p < s.2.2.2.2[i].length → rdAt s.2.2.2.2[i] p) ∧ ref22_Right.l14 k n q (i : Int) (j : Int) s = ref22_Right.l9 k n ((i + 1 : Nat) : Int) s) ∨ (¬ (∀ p, j ≤ p → p < s.2.2.2.2[i].length → rdAt s.2.2.2.2[i] p) ∧ ref22_Right.l14 k n q (i : Int) (j : Int) s = some false) := by
          intro q
          induction q with
          | zero => intro j h1 h2; omega
          | succ q ih =>
            intro j h1 h2
            have e3 : iadd .i64 (j : Int) 1 = ((j + 1 : Nat) : Int) := iadd_nat (by omega)
            have e5 : iadd .i64 (i : Int) 1 = ((i + 1 : Nat) : Int) := iadd_nat (by omega)
            by_cases hj : j < s.2.2.2.2[i].length
            · simp only [ref22_Right.l14_eq, e2, hi, decide_true, br_true, natOf_nat, rd_at' (e := .slc tDot) hi1, ilt_nat, inL_nat, hj, rd_at' (e := tDot) hj, rright_is, bnd_some, e3]
              cases hd : rightD s.2.2.2.2[i][j] with
              | false => exact .inr ⟨fun h => (by have := h j (Nat.le_refl _) hj hj; rw [hd] at this; cases this), rfl⟩
              | true =>
                rcases ih (j + 1) (by omega) (by omega) with ⟨h3, h4⟩ | ⟨h3, h4⟩
                · refine .inl ⟨fun p hp1 hp2 => ?_, h4⟩
                  by_cases e : p = j
                  · subst e; exact fun _ => hd
                  · exact h3 p (by omega) hp2
                · exact .inr ⟨fun h => h3 fun p hp1 hp2 => h p (by omega) hp2, h4⟩
            · refine .inl ⟨fun p hp1 hp2 => by omega, ?_⟩
              simp only [ref22_Right.l14_eq, e2, hi, decide_true, br_true, natOf_nat, rd_at' (e := .slc tDot) hi1, ilt_nat, hj, decide_false, br_false, e5]
        rcases inner k 0 (by omega) (by omega) with ⟨h3, h4⟩ | ⟨h3, h4⟩
        · exact .inl ⟨fun _ => ⟨by omega, rdAt_all.1 h3⟩, h4⟩
        · exact .inr ⟨fun h => h3 (rdAt_all.2 (h hi1).2), h4⟩
    · have e1 : ilt ((8 : Nat) : Int) 8 = false := rfl
      simp only [ref22_Right.l9_eq, e1, br_false]
  have hdot : (∀ j, 0 ≤ j → j < s.1.length → chkAt k s.1 j) → ∀ t ∈ s.1, rightD t.1 = true := by
    intro h t ht
    obtain ⟨j, hj, rfl⟩ := List.mem_iff_getElem.1 ht
    obtain ⟨e, he, hei⟩ := hsh _ ht
    rw [h j (by omega) hj hj] at he
    injection he with he
    exact hei he.symm
  have txs : ∃ b, ref22_Right.l4 k k 0 s = some b ∧ (b = true ↔ (∀ j, 0 ≤ j → j < s.1.length → chkAt k s.1 j) ∧ ((∀ j, 0 ≤ j → j < 8 → redoAt s.2.2.2.2 j) ∧ ((Can s.2.2.1 ∧ s.2.2.1.2.length ≤ 4096) ∧ s.2.2.1 = (dotsOf s.1).foldl putD emptyD))) := by
    by_cases hall : ∀ j, 0 ≤ j → j < s.1.length → chkAt k s.1 j
    · refine loop_all s.1.length (fun n i => ref22_Right.l4 k n (i : Int) s) (chkAt k s.1) (fun n i hi => ?_) _ _ (rows (hdot hall)) (fun n => ?_) k 0 (by omega) (by omega)
      · have e3 : iadd .i64 (i : Int) 1 = ((i + 1 : Nat) : Int) := iadd_nat (by omega)
        have hc := hall i (by omega) hi hi
        have ez : ieq (0 : Int) 0 = true := rfl
        simp only [ref22_Right.l4_eq, ilt_nat, inL_nat, natOf_nat, hi, decide_true, br_true, rd_at' (e := tTxn) hi, hc, bnd_some, e3, ez, bt, br_false]
        exact .inl ⟨hall i (by omega) hi, trivial⟩
      · simp only [ref22_Right.l4_eq, ilt_nat, Nat.lt_irrefl, decide_false, br_false]
    · -- it falls at the first that is wrong
      have fall : ∀ n i, i ≤ s.1.length → s.1.length < n + i → (¬ ∀ j, i ≤ j → j < s.1.length → chkAt k s.1 j) → ref22_Right.l4 k n (i : Int) s = some false := by
        intro n
        induction n with
        | zero => intro i h1 h2; omega
        | succ n ih =>
          intro i h1 h2 hne
          have hi : i < s.1.length := Nat.lt_of_not_le fun hle => hne fun j hj1 hj2 => by omega
          have e3 : iadd .i64 (i : Int) 1 = ((i + 1 : Nat) : Int) := iadd_nat (by omega)
          obtain ⟨e, he, _⟩ := hsh _ (List.getElem_mem hi)
          rw [ref22_Right.l4_eq, ilt_nat, inL_nat, natOf_nat, rd_at' (e := tTxn) hi, he, e3]
          simp only [hi, decide_true, br_true, bnd_some, ieq_dec, bnot_dec, br_dec]
          by_cases hz : e = 0
          · rw [if_neg (by simpa using hz)]
            refine ih (i + 1) (by omega) (by omega) fun hh => hne fun j hj1 hj2 => ?_
            by_cases ej : j = i
            · subst ej; exact fun _ => by rw [he, hz]
            · exact hh j (by omega) hj2
          · rw [if_pos hz]
      exact ⟨false, fall k 0 (by omega) (by omega) hall, ⟨fun h => (by cases h), fun h => absurd h.1 hall⟩⟩
  obtain ⟨b, hb, hbi⟩ := txs
  refine ⟨b, hb, hbi.trans ⟨fun ⟨h1, h2, h3, h4⟩ => ?_, fun h => ⟨fun j _ hj _ => h.chk _ (List.getElem_mem hj), fun j _ hj hj8 => h.redo _ (List.getElem_mem hj8), h.kn, h.know⟩⟩⟩
  refine ⟨by omega, i1.1 rfl, i2.1 rfl, i3.1 rfl, fun t ht => ?_, fun l hl => ?_, h3, h4⟩
  · obtain ⟨j, hj, rfl⟩ := List.mem_iff_getElem.1 ht
    exact h1 j (by omega) hj hj
  · obtain ⟨j, hj, rfl⟩ := List.mem_iff_getElem.1 hl
    exact h2 j (by omega) (by omega) hj
structure ShortS (s : Sta) : Prop where
  tx : s.1.length ≤ 20
  un : s.2.1.length ≤ 100
  kn : s.2.2.1.2.length ≤ 100
  se : s.2.2.2.1.2.length ≤ 100
  each : ∀ t ∈ s.1, ShortT t
  redo : ∀ l ∈ s.2.2.2.2, l.length ≤ 40
theorem ShortS.len {s : Sta} (h : ShortS s) : LenS 100 s := ⟨Nat.le_trans h.tx (by decide), h.un, h.kn, h.se, fun l hl => Nat.le_trans (h.redo l hl) (by decide)⟩
structure ShortD (d : Dlt) : Prop where
  tx : d.1.length ≤ 20
  un : d.2.1.length ≤ 100
  se : d.2.2.length ≤ 100
  each : ∀ t ∈ d.1, ShortT t
theorem ShortD.len {d : Dlt} (h : ShortD d) : LenD 100 d := ⟨Nat.le_trans h.tx (by decide), h.un, h.se⟩
end Go.Proofs.YtbiihldcljemfaaGreatDoor
end
section
/- States with more of each: they may be, and the order does not matter. -/
set_option linter.unusedVariables false
set_option linter.unusedSimpArgs false
namespace Go.Proofs.YtbiihldcljemfaaGreatDoor
open Pal
theorem puts_memG : ∀ (l : List Dot) (s : DSet), Can s → Can (l.foldl putD s) ∧ (∀ x, Mem (l.foldl putD s) x ↔ Mem s x ∨ (rightD x = true ∧ x ∈ l)) ∧ (l.foldl putD s).2.length ≤ s.2.length + l.length
  | [], s, h => ⟨h, fun x => by simp, by simp⟩
  | d :: l, s, h => by
    obtain ⟨a, b, c⟩ := putD_can h d
    obtain ⟨p, q, r⟩ := puts_memG l _ a
    refine ⟨p, fun x => ?_, by simp only [List.foldl_cons, List.length_cons]; omega⟩
    show Mem (l.foldl putD (putD s d)) x ↔ _
    rw [q, b]
    constructor
    · rintro ((h1 | ⟨h1, rfl⟩) | ⟨h1, h2⟩)
      · exact .inl h1
      · exact .inr ⟨h1, by simp⟩
      · exact .inr ⟨h1, List.mem_cons_of_mem _ h2⟩
    · rintro (h1 | ⟨h1, h2⟩)
      · exact .inl (.inl h1)
      · rcases List.mem_cons.1 h2 with rfl | h2
        · exact .inl (.inr ⟨h1, rfl⟩)
        · exact .inr ⟨h1, h2⟩
end Go.Proofs.YtbiihldcljemfaaGreatDoor
end
section
/- What is known: joined, the same, within. -/
namespace Go.Proofs.YtbiihldcljemfaaGreatDoor
open Pal
end Go.Proofs.YtbiihldcljemfaaGreatDoor
end
section
/- Counts that may be: the program's test. -/
set_option linter.unusedVariables false
set_option linter.unusedSimpArgs false
namespace Go.Proofs.YtbiihldcljemfaaGreatDoor
open Pal
theorem trightU2_is (k : Nat) (l : List Undo) (h3 : 3 ≤ k) (hl : l.length < k) (hk : k < 1000000) : ∃ b, tally_Right.f k l = some b ∧ (b = true ↔ CanU l) := by
  obtain ⟨b, hb, hbi⟩ := loop_all' l.length (fun n i => tally_Right.l2 k n l l (ilen l) (i : Int)) (okU l) (fun n i hi => by
    have e4 : iadd .i64 (i : Int) 1 = ((i + 1 : Nat) : Int) := iadd_nat (by omega)
    simp only [tally_Right.l2_eq, ilt_nat, inL_nat, natOf_nat, hi, decide_true, br_true, rd_at' (e := tUndo) hi, right_is, bnd_some, e4]
    have key : ∀ hr : rightU l[i] = false, ¬ okU l i := fun hr h => by have := (h hi).1; rw [hr] at this; cases this
    have bt : bnot true = false := rfl
    have bf : bnot false = true := rfl
    cases hd : rightD l[i].1 with
    | false => exact .inr ⟨key (by unfold rightU; rw [hd]; rfl), by rw [bf]; rfl⟩
    | true =>
      rw [bt]
      simp only [br_false, ilt_dec, br_dec]
      by_cases h1 : l[i].2 < 1
      · exact .inr ⟨key (by unfold rightU; rw [hd, decide_eq_false (by omega)]; rfl), if_pos h1⟩
      · rw [if_neg h1]
        by_cases h2 : 64 < l[i].2
        · exact .inr ⟨key (by unfold rightU; rw [hd, decide_eq_false (by omega)]; rfl), if_pos h2⟩
        · rw [if_neg h2]
          have hu : rightU l[i] = true := by unfold rightU; rw [hd, decide_eq_true (by omega)]; rfl
          by_cases h0 : 0 < i
          · have hi1 : i - 1 < l.length := by omega
            have e3 : isub .i64 (i : Int) 1 = ((i - 1 : Nat) : Int) := by rw [isub_s (by omega) (by omega) (by omega) (by omega)]; omega
            have e5 : (0 : Int) < (i : Int) := by omega
            rw [if_pos e5, e3, inL_nat, natOf_nat, rd_at' (e := tUndo) hi1, tcmp_is k _ _ h3]
            simp only [hi1, decide_true, br_true, bnd_some, ile_dec, br_dec]
            have hcc : cmpD l[i - 1].1 l[i].1 < 0 ↔ dotLt l[i - 1].1 l[i].1 = true := by rw [← cmp_lt0]; exact decide_eq_true_iff.symm
            by_cases hc : 0 ≤ cmpD l[i - 1].1 l[i].1
            · exact .inr ⟨fun h => by have := hcc.2 ((h hi).2 h0); omega, if_pos hc⟩
            · exact .inl ⟨fun _ => ⟨hu, fun _ => hcc.1 (by omega)⟩, if_neg hc⟩
          · have e5 : ¬ (0 : Int) < (i : Int) := by omega
            exact .inl ⟨fun _ => ⟨hu, fun h => absurd h h0⟩, if_neg e5⟩) (fun n => by
    simp only [tally_Right.l2_eq, ilt_nat, Nat.lt_irrefl, decide_false, br_false]) k 0 (by omega) (by omega)
  rw [tally_Right.f_eq]
  refine ⟨b, hb, hbi.trans ?_⟩
  rw [canU_iff]
  exact ⟨fun h j hj => h j (by omega) hj hj, fun h j _ _ hj => h j hj⟩
end Go.Proofs.YtbiihldcljemfaaGreatDoor
end
section
/- Whether a state may be: the program's word is the document's. -/
set_option linter.unusedVariables false
set_option linter.unusedSimpArgs false
namespace Go.Proofs.YtbiihldcljemfaaGreatDoor
open Pal
def risB (l : List Txn) (j : Nat) : Prop := ∀ h : j < l.length, ∀ h0 : 0 < j, dotLt (l[j - 1]'(by omega)).1 l[j].1 = true
theorem risB_iff {l : List Txn} : l.Pairwise (fun a b => dotLt a.1 b.1 = true) ↔ ∀ j, 0 ≤ j → j < l.length → risB l j := by
  rw [ris_iff]
  constructor
  · intro h j _ hj hj' h0
    have := h (j - 1) (by omega) (by omega) (by omega)
    have e : j - 1 + 1 = j := by omega
    simpa only [e] using this
  · intro h j _ hj hj'
    have := h (j + 1) (by omega) (by omega) hj' (by omega)
    simpa using this
theorem trises_is (k : Nat) (l : List Txn) (h3 : 3 ≤ k) (hl : l.length < k) (hk : k < 1000000) : ∃ b, txn_Rises.f k l = some b ∧ (b = true ↔ l.Pairwise (fun a b => dotLt a.1 b.1 = true)) := by
  rw [txn_Rises.f_eq]
  obtain ⟨b, hb, hbi⟩ := loop_all' l.length (fun n i => txn_Rises.l2 k n l l (ilen l) (i : Int)) (risB l) (fun n i hi => by
    have e4 : iadd .i64 (i : Int) 1 = ((i + 1 : Nat) : Int) := iadd_nat (by omega)
    simp only [txn_Rises.l2_eq, ilt_nat, inL_nat, natOf_nat, hi, decide_true, br_true, rd_at' (e := tTxn) hi, e4]
    rw [show ilt 0 (i : Int) = decide (0 < i) from ilt_nn 0 i]
    by_cases h0 : 0 < i
    · have hi1 : i - 1 < l.length := by omega
      have e3 : isub .i64 (i : Int) 1 = ((i - 1 : Nat) : Int) := by rw [isub_s (by omega) (by omega) (by omega) (by omega)]; omega
      obtain ⟨q, rfl⟩ : ∃ q, k = q + 3 := ⟨k - 3, by omega⟩
      rw [decide_eq_true h0, br_true, e3, inL_nat, natOf_nat, rd_at' (e := tTxn) hi1, decide_eq_true hi1, br_true, cmpD_is, bnd_some, show ile 0 (cmpD l[i - 1].1 l[i].1) = decide (0 ≤ cmpD l[i - 1].1 l[i].1) from rfl]
      have hcc : cmpD l[i - 1].1 l[i].1 < 0 ↔ dotLt l[i - 1].1 l[i].1 = true := by rw [← cmp_lt0]; exact decide_eq_true_iff.symm
      by_cases hc : 0 ≤ cmpD l[i - 1].1 l[i].1
      · exact .inr ⟨fun h => by have := hcc.2 (h hi h0); omega, by rw [decide_eq_true hc, br_true]⟩
      · exact .inl ⟨fun _ _ => hcc.1 (by omega), by rw [decide_eq_false hc, br_false]⟩
    · exact .inl ⟨fun _ h => absurd h h0, by rw [decide_eq_false h0, br_false]⟩) (fun n => by
    simp only [txn_Rises.l2_eq, ilt_nat, Nat.lt_irrefl, decide_false, br_false]) k 0 (by omega) (by omega)
  exact ⟨b, hb, hbi.trans risB_iff.symm⟩
theorem names_l (k : Nat) (l : List Txn) (hl : l.length < 1000000) : ∀ (n i : Nat) (x : List Dot), i ≤ l.length → l.length < n + i → x.length = i → state_names.l3 k n x l (ilen l) (i : Int) = some (x ++ dotsOf (l.drop i))
  | 0, i, _, h, h', _ => by omega
  | n + 1, i, x, h, h', hx => by
    rw [state_names.l3_eq, ilt_nat, inL_nat, natOf_nat]
    by_cases hi : i < l.length
    · rw [decide_eq_true hi, br_true, br_true, rd_at' (e := tTxn) hi, room1 (by omega), br_true, iadd_nat (by omega), names_l k l hl n (i + 1) _ (by omega) (by omega) (by simp [app, hx])]
      unfold app dotsOf
      rw [List.drop_eq_getElem_cons hi, List.map_cons, List.append_assoc]; rfl
    · rw [decide_eq_false hi, br_false, List.drop_eq_nil_of_le (by omega)]; simp [dotsOf]
theorem names_is (k : Nat) (l : List Txn) (hl : l.length < k) (hk : k < 1000000) : state_names.f k l = some (dotsOf l) := by
  rw [state_names.f_eq]
  have h := names_l k l (by omega) k 0 [] (by omega) (by omega) rfl
  rw [show ((0 : Nat) : Int) = 0 from rfl, List.drop_zero, List.nil_append] at h
  exact h
theorem chks_l (k : Nat) (l : List Txn) (ho : ∀ t ∈ l, t.2.2.2.2.length < k ∧ ∀ o ∈ t.2.2.2.2, SizO k o) (hl : l.length < 1000000) (hk : 10 < k) (hk2 : k < 1000000) : ∀ (n i : Nat), i ≤ l.length → l.length < n + i →
    ∃ r : Int, slices_IndexFunc_api_Txn_api_Txn_state_Right_1.l2 k n l (ilen l) (i : Int) = some r ∧ (0 ≤ r ↔ ¬ ∀ t ∈ l.drop i, ref12_Check.f k t = some 0)
  | 0, i, _, h => by omega
  | n + 1, i, h, h' => by
    rw [slices_IndexFunc_api_Txn_api_Txn_state_Right_1.l2_eq, ilt_nat, inL_nat, natOf_nat]
    by_cases hi : i < l.length
    · obtain ⟨o1, o2⟩ := ho _ (List.getElem_mem hi)
      obtain ⟨e, g1, g2⟩ := txn_is k l[i] o2 o1 hk hk2
      rw [decide_eq_true hi, br_true, br_true, rd_at' (e := tTxn) hi, state_Right_1.f_eq, g1, bnd_some, bnd_some, iadd_nat (by omega), ieq_dec, bnot_dec, List.drop_eq_getElem_cons hi]
      by_cases h0 : e = 0
      · subst h0
        rw [decide_eq_false (by simp), br_false]
        obtain ⟨r, q1, q2⟩ := chks_l k l ho hl hk hk2 n (i + 1) (by omega) (by omega)
        refine ⟨r, q1, q2.trans (not_congr ⟨fun h t ht => ?_, fun h t ht => h t (List.mem_cons_of_mem _ ht)⟩)⟩
        rcases List.mem_cons.1 ht with rfl | ht
        · exact g2
        · exact h t ht
      · rw [decide_eq_true h0, br_true]
        refine ⟨(i : Int), rfl, ⟨fun _ h => h0 ?_, fun _ => by omega⟩⟩
        have := h l[i] List.mem_cons_self
        rw [g2] at this; injection this
    · rw [decide_eq_false hi, br_false, List.drop_eq_nil_of_le (by omega)]
      exact ⟨-1, rfl, ⟨fun h => by omega, fun h => absurd (fun t ht => by simp at ht) h⟩⟩
theorem rds_l (k : Nat) (l : List Dot) (hl : l.length < 1000000) : ∀ (n i : Nat), i ≤ l.length → l.length < n + i →
    ∃ r : Int, slices_IndexFunc_api_Dot_api_Dot_state_Right_2.l2 k n l (ilen l) (i : Int) = some r ∧ (0 ≤ r ↔ ¬ ∀ d ∈ l.drop i, rightD d = true)
  | 0, i, _, h => by omega
  | n + 1, i, h, h' => by
    rw [slices_IndexFunc_api_Dot_api_Dot_state_Right_2.l2_eq, ilt_nat, inL_nat, natOf_nat]
    by_cases hi : i < l.length
    · rw [decide_eq_true hi, br_true, br_true, rd_at' (e := tDot) hi, state_Right_2.f_eq, right_is, bnd_some, bnd_some, iadd_nat (by omega), List.drop_eq_getElem_cons hi]
      cases hr : rightD l[i] with
      | true =>
        obtain ⟨r, q1, q2⟩ := rds_l k l hl n (i + 1) (by omega) (by omega)
        refine ⟨r, q1, q2.trans (not_congr ⟨fun h t ht => ?_, fun h t ht => h t (List.mem_cons_of_mem _ ht)⟩)⟩
        rcases List.mem_cons.1 ht with rfl | ht
        · exact hr
        · exact h t ht
      | false =>
        refine ⟨(i : Int), rfl, ⟨fun _ h => ?_, fun _ => by omega⟩⟩
        have := h l[i] List.mem_cons_self
        rw [hr] at this; cases this
    · rw [decide_eq_false hi, br_false, List.drop_eq_nil_of_le (by omega)]
      exact ⟨-1, rfl, ⟨fun h => by omega, fun h => absurd (fun t ht => by simp at ht) h⟩⟩
theorem known_ofD (l : List Dot) : l.foldl putD emptyD = ofD l := by
  obtain ⟨p, q, _⟩ := puts_memG l emptyD empty_can
  refine can_unique p (ofD_can l).1 fun x => ?_
  rw [q, (ofD_can l).2.1]
  constructor
  · rintro (h | h)
    · exact absurd h (empty_mem x)
    · exact h
  · exact .inr
def redoOK (l : List Dot) : Prop := l.length ≤ 1000 ∧ ∀ d ∈ l, rightD d = true
theorem right_l6 (k : Nat) (s : Sta) (h8 : s.2.2.2.2.length = 8) (hl : ∀ l ∈ s.2.2.2.2, l.length < k) (b1 b2 : Bool) (g1 : dots_Right.f k s.2.2.1 = some b1) (g2 : dots_Right.f k s.2.2.2.1 = some b2) (hk2 : k < 1000000) : ∀ (n i : Nat), i ≤ 8 → 8 < n + i →
    ∃ b, state_Right.l6 k n s.2.2.2.2 (i : Int) s = some b ∧ (b = true ↔ (∀ l ∈ s.2.2.2.2.drop i, redoOK l) ∧ b1 = true ∧ b2 = true)
  | 0, i, _, h => by omega
  | n + 1, i, h, h' => by
    rw [state_Right.l6_eq, show ilt (i : Int) 8 = decide (i < 8) from ilt_nn i 8, inB_nat, natOf_nat]
    by_cases hi : i < 8
    · have hi' : i < s.2.2.2.2.length := by omega
      have hm := List.getElem_mem hi'
      rw [decide_eq_true hi, br_true, br_true, rd_at' (e := .slc tDot) hi', show ilt 1000 (ilen s.2.2.2.2[i]) = decide (1000 < s.2.2.2.2[i].length) from ilt_lenR 1000 _, List.drop_eq_getElem_cons hi', iadd_nat (by omega)]
      by_cases hb : 1000 < s.2.2.2.2[i].length
      · rw [decide_eq_true hb, br_true]
        exact ⟨false, rfl, ⟨fun h => (by cases h), fun h => by have := (h.1 _ (List.mem_cons_self)).1; omega⟩⟩
      · obtain ⟨r, q1, q2⟩ := rds_l k s.2.2.2.2[i] (by have := hl _ hm; omega) k 0 (by omega) (by have := hl _ hm; omega)
        rw [show ((0 : Nat) : Int) = 0 from rfl] at q1
        rw [List.drop_zero] at q2
        rw [decide_eq_false hb, br_false, slices_ContainsFunc_api_Dot_api_Dot_state_Right_2.f_eq, slices_IndexFunc_api_Dot_api_Dot_state_Right_2.f_eq, q1, bnd_some, bnd_some, show ile 0 r = decide (0 ≤ r) from rfl]
        by_cases hr : 0 ≤ r
        · rw [decide_eq_true hr, br_true]
          exact ⟨false, rfl, ⟨fun h => (by cases h), fun h => absurd (h.1 _ (List.mem_cons_self)).2 (q2.1 hr)⟩⟩
        · rw [decide_eq_false hr, br_false]
          obtain ⟨b, z1, z2⟩ := right_l6 k s h8 hl b1 b2 g1 g2 hk2 n (i + 1) (by omega) (by omega)
          have hall : ∀ d ∈ s.2.2.2.2[i], rightD d = true := Classical.byContradiction fun h => hr (q2.2 h)
          refine ⟨b, z1, z2.trans ⟨fun h => ⟨fun l hl => ?_, h.2⟩, fun h => ⟨fun l hl => h.1 l (List.mem_cons_of_mem _ hl), h.2⟩⟩⟩
          rcases List.mem_cons.1 hl with rfl | hl
          · exact ⟨by omega, hall⟩
          · exact h.1 l hl
    · rw [decide_eq_false hi, br_false, g1, g2, bnd_some, bnd_some, List.drop_eq_nil_of_le (by omega)]
      cases b1 <;> cases b2 <;> exact ⟨_, rfl, by simp⟩
theorem state_is (k : Nat) (s : Sta) (hv1 : s.2.2.1.1.length = 16) (hv2 : s.2.2.2.1.1.length = 16) (h8 : s.2.2.2.2.length = 8) (ho : ∀ t ∈ s.1, t.2.2.2.2.length < k ∧ ∀ o ∈ t.2.2.2.2, SizO k o) (hrl : ∀ l ∈ s.2.2.2.2, l.length < k) (hul : s.2.1.length < k) (hkl : s.2.2.1.2.length < k) (hk : 5000 < k) (hk2 : k < 1000000) :
    ∃ b, state_Right.f k s = some b ∧ (b = true ↔ RightS k s) := by
  rw [state_Right.f_eq, show ilt 1000 (ilen s.1) = decide (1000 < s.1.length) from ilt_lenR 1000 s.1]
  by_cases hm : 1000 < s.1.length
  · rw [decide_eq_true hm]; exact ⟨false, rfl, ⟨fun h => (by cases h), fun h => by have := h.many; omega⟩⟩
  rw [decide_eq_false hm, br_false]
  obtain ⟨b1, g1, i1⟩ := trises_is k s.1 (by omega) (by omega) hk2
  obtain ⟨b2, g2, i2⟩ := trightU2_is k s.2.1 (by omega) hul hk2
  obtain ⟨r, g3, i3⟩ := chks_l k s.1 ho (by omega) (by omega) hk2 k 0 (by omega) (by omega)
  obtain ⟨b4, g4, i4⟩ := dr_is k s.2.2.1 hv1 hk hk2
  obtain ⟨b5, g5, i5⟩ := dr_is k s.2.2.2.1 hv2 hk hk2
  obtain ⟨b6, g6, i6⟩ := right_l6 k s h8 hrl b4 b5 g4 g5 hk2 k 0 (by omega) (by omega)
  rw [show ((0 : Nat) : Int) = 0 from rfl] at g3 g6
  rw [List.drop_zero] at i3 i6
  have bt : bnot true = false := rfl
  have bf : bnot false = true := rfl
  rw [g1, bnd_some]
  cases b1 with
  | false => rw [bf, br_true]; exact ⟨false, rfl, ⟨fun h => (by cases h), fun h => i1.2 h.ris⟩⟩
  | true =>
  rw [bt, br_false, g2, bnd_some]
  cases b2 with
  | false => rw [bf, br_true]; exact ⟨false, rfl, ⟨fun h => (by cases h), fun h => i2.2 h.un⟩⟩
  | true =>
  rw [bt, br_false, names_is k s.1 (by omega) hk2, bnd_some, of_is k _ (by unfold dotsOf; rw [List.length_map]; omega) hk2, bnd_some, same_is k _ _ hkl hk2, bnd_some, ← known_ofD]
  by_cases hkn : s.2.2.1 = (dotsOf s.1).foldl putD emptyD
  case neg => rw [decide_eq_false hkn, bf, br_true]; exact ⟨false, rfl, ⟨fun h => (by cases h), fun h => absurd h.know hkn⟩⟩
  rw [decide_eq_true hkn, bt, br_false, slices_ContainsFunc_api_Txn_api_Txn_state_Right_1.f_eq, slices_IndexFunc_api_Txn_api_Txn_state_Right_1.f_eq, g3, bnd_some, bnd_some, show ile 0 r = decide (0 ≤ r) from rfl]
  by_cases hr : 0 ≤ r
  · rw [decide_eq_true hr, br_true]; exact ⟨false, rfl, ⟨fun h => (by cases h), fun h => absurd h.chk (i3.1 hr)⟩⟩
  · have hc : ∀ t ∈ s.1, ref12_Check.f k t = some 0 := Classical.byContradiction fun h => hr (i3.2 h)
    rw [decide_eq_false hr, br_false]
    refine ⟨b6, g6, i6.trans ⟨fun h => ⟨by omega, i1.1 rfl, i2.1 rfl, i5.1 h.2.2, hc, h.1, i4.1 h.2.1, hkn⟩, fun h => ⟨h.redo, i4.2 h.kn, i5.2 h.se⟩⟩⟩
end Go.Proofs.YtbiihldcljemfaaGreatDoor
end
section
/- What is told as bytes is read again: numbers. -/
namespace Go.Proofs.YtbiihldcljemfaaGreatDoor
open Pal
end Go.Proofs.YtbiihldcljemfaaGreatDoor
end
section
/- What is told as bytes is read again: dots, vectors, rows of dots and sets. -/
namespace Go.Proofs.YtbiihldcljemfaaGreatDoor
open Pal
end Go.Proofs.YtbiihldcljemfaaGreatDoor
end
section
/- Knowledge: the program and the document read the same, and what is told is read again. -/
set_option linter.unusedVariables false
set_option linter.unusedSimpArgs false
namespace Go.Proofs.YtbiihldcljemfaaGreatDoor
open Pal
theorem tread_l (k : Nat) (S : List UInt8) (hS : S.length < 5000) (hk : 5000 < k) (hk2 : k < 1000000) (N : Nat) (hN : N ≤ S.length) : ∀ (n i : Nat) (l : List Undo) (r : Rdr) (x : RefRdr), i ≤ N → N < n + i → l.length = i → RR S r x →
    ∃ (l' : List Undo) (r' : Rdr) (x' : RefRdr), tally_Read.l3 k n l (N : Int) (i : Int) r = some (l', r') ∧ ref08_Read.l4 k n (N : Int) l (i : Int) x = some (l', x') ∧ RR S r' x' ∧ l'.length ≤ N
  | 0, i, _, _, _, h, h', _, _ => by omega
  | n + 1, i, l, r, x, h, h', hl, hr => by
    rw [tally_Read.l3_eq, ref08_Read.l4_eq, ilt_nn]
    by_cases hi : i < N
    · obtain ⟨d, r1, x1, e1, e2, h1, _⟩ := dotread_is k S r x hr (by omega) (by omega)
      obtain ⟨c, r2, x2, e3, e5, h2, _, _, _⟩ := int_is k S r1 x1 h1 (by omega) (by omega)
      have e4 : iadd .i64 (i : Int) 1 = ((i + 1 : Nat) : Int) := iadd_nat (by omega)
      rw [decide_eq_true hi, e1, e2, e4]
      simp only [br_true, bnd_some]
      rw [e3, e5]
      simp only [bnd_some, room1 (show l.length < 4000000 by omega), br_true]
      exact tread_l k S hS hk hk2 N hN n (i + 1) _ r2 x2 (by omega) (by omega) (by simp [app, hl]) h2
    · rw [decide_eq_false hi]
      obtain ⟨b1, g1, i1⟩ := trightU2_is k l (by omega) (by omega) hk2
      obtain ⟨b2, g2, i2⟩ := rrightU_is k l (by omega) hk2
      have hbb : b1 = b2 := by rw [Bool.eq_iff_iff, i1, i2]
      subst hbb
      simp only [br_false, bnd_some, g1, g2, fault_is, fail_is, ieq_dec, bnot_dec, br_dec]
      obtain ⟨s2, c1⟩ := r
      obtain ⟨S2, a2, c2⟩ := x
      have hb : c1 = c2 := hr.bad
      subst hb
      by_cases hz : c1 = 0
      · subst hz
        simp only [if_true]
        cases b1 with
        | true =>
          have e : bnot true = false := rfl
          simp only [e, br_false, not_true, if_false]
          exact ⟨l, _, _, rfl, rfl, hr, by omega⟩
        | false =>
          have e : bnot false = true := rfl
          simp only [e, br_true]
          exact ⟨[], _, _, rfl, rfl, hr.fail (e := 2) (by decide) rfl, by simp⟩
      · simp only [hz, not_false_eq_true, if_true, if_false]
        exact ⟨[], _, _, rfl, rfl, hr, by simp⟩
theorem tread_is (k : Nat) (S : List UInt8) (most : Int) (r : Rdr) (x : RefRdr) (h : RR S r x) (hS : S.length < 5000) (hk : 5000 < k) (hk2 : k < 1000000) :
    ∃ (l : List Undo) (r' : Rdr) (x' : RefRdr), tally_Read.f k most r = some (l, r') ∧ ref08_Read.f k most x = some (l, x') ∧ RR S r' x' ∧ l.length ≤ S.length := by
  obtain ⟨n, r1, x1, e1, e2, h1, n0, n1, nm⟩ := many_is k S most r x h (by omega) (by omega)
  rw [tally_Read.f_eq, ref08_Read.f_eq, e1, e2]
  simp only [bnd_some]
  obtain ⟨N, rfl⟩ : ∃ N : Nat, n = (N : Int) := ⟨n.toNat, by omega⟩
  obtain ⟨l, r', x', g1, g2, g3, g4⟩ := tread_l k S hS hk hk2 N (by omega) k 0 [] r1 x1 (by omega) (by omega) rfl h1
  exact ⟨l, r', x', g1, g2, g3, by omega⟩
end Go.Proofs.YtbiihldcljemfaaGreatDoor
end
section
/- How long a transaction's parts are. -/
set_option linter.unusedVariables false
set_option linter.unusedSimpArgs false
namespace Go.Proofs.YtbiihldcljemfaaGreatDoor
open Pal
structure SizT (k : Nat) (t : Txn) : Prop where
  ops : t.2.2.2.2.length < k
  each : ∀ o ∈ t.2.2.2.2, SizO k o
theorem SizT.len {k : Nat} {t : Txn} (h : SizT k t) : LenT k t := ⟨h.ops, fun o ho => ⟨(h.each o ho).names, (h.each o ho).seen⟩⟩
theorem txn_rt (k : Nat) (t : Txn) (h : ref12_Check.f k t = some 0) : rightD t.1 = true := by
  rw [ref12_Check.f_eq, rright_is, bnd_some] at h
  cases hr : rightD t.1 with
  | true => rfl
  | false =>
    rw [hr] at h
    have bf : bnot false = true := rfl
    rw [bf, br_true] at h
    cases h
theorem SizT.chk {k : Nat} {t : Txn} (h : SizT k t) (hk : 10 < k) (hk2 : k < 1000000) : ∃ e : Int, ref12_Check.f k t = some e ∧ (e = 0 → rightD t.1 = true) := by
  obtain ⟨e, _, g⟩ := txn_is k t h.each h.ops hk hk2
  exact ⟨e, g, fun he => txn_rt k t (by rw [g, he])⟩
end Go.Proofs.YtbiihldcljemfaaGreatDoor
end
section
/- Transactions and lists of them: the program and the document read the same. -/
set_option linter.unusedVariables false
set_option linter.unusedSimpArgs false
namespace Go.Proofs.YtbiihldcljemfaaGreatDoor
open Pal
theorem txnr_l (k : Nat) (S : List UInt8) (hS : S.length < 5000) (hk : 5000 < k) (hk2 : k < 1000000) (N : Nat) (hN : N ≤ 16) (d : Dot) (a b : Int) (c : Bool) : ∀ (n i : Nat) (l : List Op) (r : Rdr) (x : RefRdr), i ≤ N → N < n + i → l.length = i → (∀ o ∈ l, SizO k o) → RR S r x →
    ∃ (t : Txn) (r' : Rdr) (x' : RefRdr), txn_Read.l7 k n (N : Int) (i : Int) (0, 0) 0 0 false [] d a b c l r = some (t, r') ∧ ref12_Read.l11 k n (N : Int) (i : Int) (0, 0) 0 0 false [] d a b c l x = some (t, x') ∧ RR S r' x' ∧ SizT k t
  | 0, i, _, _, _, h, h', _, _, _ => by omega
  | n + 1, i, l, r, x, h, h', hl, hs, hr => by
    rw [txn_Read.l7_eq, ref12_Read.l11_eq, ilt_nn]
    by_cases hi : i < N
    · obtain ⟨o, r1, x1, e1, e2, h1, so⟩ := opr_is k S r x hr hS hk hk2
      have e4 : iadd .i64 (i : Int) 1 = ((i + 1 : Nat) : Int) := iadd_nat (by omega)
      rw [decide_eq_true hi, e1, e2, e4]
      simp only [br_true, bnd_some, room1 (show l.length < 4000000 by omega)]
      exact txnr_l k S hS hk hk2 N hN d a b c n (i + 1) _ r1 x1 (by omega) (by omega) (by simp [app, hl]) (fun o' ho => by
        simp only [app, List.mem_append, List.mem_singleton] at ho
        rcases ho with ho | rfl
        · exact hs _ ho
        · exact so) h1
    · obtain ⟨e, g1, g2⟩ := txn_is k (d, (a, (b, (c, l)))) hs (by show l.length < k; omega) (by omega) hk2
      rw [decide_eq_false hi]
      simp only [br_false, bnd_some, g1, g2, fault_is, fail_is, ref02_Reader_Fail.f_eq, ieq_dec, bnot_dec, br_dec]
      obtain ⟨s2, c1⟩ := r
      obtain ⟨S2, a2, c2⟩ := x
      have hb : c1 = c2 := hr.bad
      subst hb
      have hz0 : SizT k ((0, 0), (0, (0, (false, [])))) := ⟨by show 0 < k; omega, fun o ho => by simp at ho⟩
      by_cases hz : c1 = 0
      · subst hz
        simp only [if_true]
        by_cases he : e = 0
        · subst he
          simp only [not_true, if_false, if_true, bnd_some]
          exact ⟨_, _, _, rfl, rfl, hr, ⟨by show l.length < k; omega, hs⟩⟩
        · simp only [he, not_false_eq_true, if_true, bnd_some]
          exact ⟨_, _, _, rfl, rfl, hr.fail he rfl, hz0⟩
      · simp only [hz, not_false_eq_true, if_true, if_false]
        exact ⟨_, _, _, rfl, rfl, hr, hz0⟩
theorem txnr_is (k : Nat) (S : List UInt8) (r : Rdr) (x : RefRdr) (h : RR S r x) (hS : S.length < 5000) (hk : 5000 < k) (hk2 : k < 1000000) :
    ∃ (t : Txn) (r' : Rdr) (x' : RefRdr), txn_Read.f k r = some (t, r') ∧ ref12_Read.f k x = some (t, x') ∧ RR S r' x' ∧ SizT k t := by
  obtain ⟨d, r1, x1, e1, e2, h1, _⟩ := dotread_is k S r x h (by omega) (by omega)
  obtain ⟨a, r2, x2, e3, e4, h2, _, _, _⟩ := int_is k S r1 x1 h1 (by omega) (by omega)
  obtain ⟨b, r3, x3, e5, e6, h3, _, _, _⟩ := int_is k S r2 x2 h2 (by omega) (by omega)
  obtain ⟨c, r4, x4, e7, e8, h4, _, _, _⟩ := int_is k S r3 x3 h3 (by omega) (by omega)
  have fin : ∀ (r5 : Rdr) (x5 : RefRdr), RR S r5 x5 → ∃ (t : Txn) (r' : Rdr) (x' : RefRdr),
      (bnd (pack_Reader_Many.f k 16 r5) fun q => txn_Read.l7 k k q.1 0 (0, 0) 0 0 false [] d a b (ieq c 1) [] q.2) = some (t, r') ∧
      (bnd (ref02_Reader_Many.f k 16 x5) fun q => ref12_Read.l11 k k q.1 0 (0, 0) 0 0 false [] d a b (ieq c 1) [] q.2) = some (t, x') ∧ RR S r' x' ∧ SizT k t := by
    intro r5 x5 h5
    obtain ⟨n, r6, x6, f1, f2, h6, n0, n1, nm⟩ := many_is k S 16 r5 x5 h5 (by omega) (by omega)
    obtain ⟨N, rfl⟩ : ∃ N : Nat, n = (N : Int) := ⟨n.toNat, by omega⟩
    have hN : N ≤ 16 := by
      by_cases h0 : N = 0
      · omega
      · have := nm (by omega); omega
    obtain ⟨t, r', x', g1, g2, g3, g4⟩ := txnr_l k S hS hk hk2 N hN d a b (ieq c 1) k 0 [] r6 x6 (by omega) (by omega) rfl (fun o ho => by simp at ho) h6
    rw [f1, f2, bnd_some, bnd_some]
    exact ⟨t, r', x', g1, g2, g3, g4⟩
  rw [txn_Read.f_eq, ref12_Read.f_eq, e1, e2]
  simp only [bnd_some]
  rw [e3, e4]
  simp only [bnd_some]
  rw [e5, e6]
  simp only [bnd_some]
  rw [e7, e8]
  simp only [bnd_some, fault_is]
  have hb : r4.2 = x4.2.2 := h4.bad
  have hfl : pack_Reader_Fail.f k 3 r4 = some ((), if r4.2 = 0 then (r4.1, 3) else r4) := fail_is k 3 r4
  have hfr : ref02_Reader_Fail.f k 3 x4 = some ((), if r4.2 = 0 then (x4.1, (x4.2.1, 3)) else x4) := by
    rw [ref02_Reader_Fail.f_eq, ieq_dec, br_dec, ← hb]; split <;> rfl
  rw [hfl, hfr]
  simp only [bnd_some]
  by_cases hz : r4.2 = 0
  · rw [hz, show ieq (0 : Int) 0 = true from rfl, br_true, if_pos rfl, if_pos rfl]
    cases ilt 1 c with
    | true => rw [br_true, br_true]; exact fin _ _ (h4.fail (by decide) (by rw [← hb]; exact hz))
    | false => rw [br_false, br_false]; exact fin _ _ h4
  · rw [ieq_dec, decide_eq_false hz, br_false, if_neg hz]
    cases ilt 1 c with
    | true => rw [br_true]; exact fin _ _ h4
    | false => rw [br_false]; exact fin _ _ h4
theorem tlr_l (k : Nat) (S : List UInt8) (hS : S.length < 5000) (hk : 5000 < k) (hk2 : k < 1000000) (N : Nat) (hN : N ≤ S.length) : ∀ (n i : Nat) (l : List Txn) (r : Rdr) (x : RefRdr), i ≤ N → N < n + i → l.length = i → (∀ t ∈ l, SizT k t) → RR S r x →
    ∃ (l' : List Txn) (r' : Rdr) (x' : RefRdr), txn_ReadList.l3 k n l (N : Int) (i : Int) r = some (l', r') ∧ ref12_ReadList.l4 k n (N : Int) l (i : Int) x = some (l', x') ∧ RR S r' x' ∧ l'.length ≤ N ∧ ∀ t ∈ l', SizT k t
  | 0, i, _, _, _, h, h', _, _, _ => by omega
  | n + 1, i, l, r, x, h, h', hl, hs, hr => by
    rw [txn_ReadList.l3_eq, ref12_ReadList.l4_eq, ilt_nn]
    by_cases hi : i < N
    · obtain ⟨t, r1, x1, e1, e2, h1, st⟩ := txnr_is k S r x hr hS hk hk2
      have e4 : iadd .i64 (i : Int) 1 = ((i + 1 : Nat) : Int) := iadd_nat (by omega)
      rw [decide_eq_true hi, e1, e2, e4]
      simp only [br_true, bnd_some, room1 (show l.length < 4000000 by omega)]
      exact tlr_l k S hS hk hk2 N hN n (i + 1) _ r1 x1 (by omega) (by omega) (by simp [app, hl]) (fun o' ho => by
        simp only [app, List.mem_append, List.mem_singleton] at ho
        rcases ho with ho | rfl
        · exact hs _ ho
        · exact st) h1
    · rw [decide_eq_false hi]
      obtain ⟨b1, g1, i1⟩ := trises_is k l (by omega) (by omega) hk2
      obtain ⟨b2, g2, i2⟩ := rrises_is k l (by omega) hk2
      have hbb : b1 = b2 := by rw [Bool.eq_iff_iff, i1, i2]
      subst hbb
      simp only [br_false, bnd_some, g1, g2, fault_is, fail_is, ieq_dec, bnot_dec, br_dec]
      obtain ⟨s2, c1⟩ := r
      obtain ⟨S2, a2, c2⟩ := x
      have hb : c1 = c2 := hr.bad
      subst hb
      by_cases hz : c1 = 0
      · subst hz
        simp only [if_true]
        cases b1 with
        | true =>
          have e : bnot true = false := rfl
          simp only [e, br_false, not_true, if_false]
          exact ⟨l, _, _, rfl, rfl, hr, by omega, hs⟩
        | false =>
          have e : bnot false = true := rfl
          simp only [e, br_true]
          exact ⟨[], _, _, rfl, rfl, hr.fail (e := 2) (by decide) rfl, by simp, fun t ht => by simp at ht⟩
      · simp only [hz, not_false_eq_true, if_true, if_false]
        exact ⟨[], _, _, rfl, rfl, hr, by simp, fun t ht => by simp at ht⟩
theorem tlr_is (k : Nat) (S : List UInt8) (most : Int) (r : Rdr) (x : RefRdr) (h : RR S r x) (hS : S.length < 5000) (hk : 5000 < k) (hk2 : k < 1000000) :
    ∃ (l : List Txn) (r' : Rdr) (x' : RefRdr), txn_ReadList.f k most r = some (l, r') ∧ ref12_ReadList.f k most x = some (l, x') ∧ RR S r' x' ∧ l.length ≤ S.length ∧ ∀ t ∈ l, SizT k t := by
  obtain ⟨n, r1, x1, e1, e2, h1, n0, n1, nm⟩ := many_is k S most r x h (by omega) (by omega)
  rw [txn_ReadList.f_eq, ref12_ReadList.f_eq, e1, e2]
  simp only [bnd_some]
  obtain ⟨N, rfl⟩ : ∃ N : Nat, n = (N : Int) := ⟨n.toNat, by omega⟩
  obtain ⟨l, r', x', g1, g2, g3, g4, g5⟩ := tlr_l k S hS hk hk2 N (by omega) k 0 [] r1 x1 (by omega) (by omega) rfl (fun t ht => by simp at ht) h1
  exact ⟨l, r', x', g1, g2, g3, by omega, g5⟩
end Go.Proofs.YtbiihldcljemfaaGreatDoor
end
section
/- A state is read: the program and the document do the same. -/
set_option linter.unusedVariables false
set_option linter.unusedSimpArgs false
namespace Go.Proofs.YtbiihldcljemfaaGreatDoor
open Pal
abbrev Rows := Ty.D (.arr 8 (.slc tDot))
def emptyS : Sta := ([], ([], ((zarr 16 0, []), ((zarr 16 0, []), zarr 8 []))))
theorem emptyS_len (n : Nat) : LenS n emptyS := ⟨by simp [emptyS], by simp [emptyS], by simp [emptyS], by simp [emptyS], fun l hl => by
  have : l = [] := by
    have : l ∈ List.replicate 8 ([] : List Dot) := hl
    exact (List.mem_replicate.1 this).2
  subst this; simp⟩
theorem upd_mem {R : List (List Dot)} {i n : Nat} {l : List Dot} (h : ∀ l ∈ R, l.length ≤ n) (hl : l.length ≤ n) : ∀ l' ∈ R.set i l, l'.length ≤ n := by
  intro l' hl'
  rcases List.mem_or_eq_of_mem_set hl' with h1 | rfl
  · exact h _ h1
  · exact hl
theorem sta_fin (k : Nat) (S : List UInt8) (hS : S.length < 5000) (hk : 5000 < k) (hk2 : k < 1000000) (L : List Txn) (U : List Undo) (E : DSet) (R : List (List Dot)) (hL : L.length ≤ S.length) (hT : ∀ t ∈ L, SizT k t) (hU : U.length ≤ S.length) (hE : E.2.length ≤ S.length) (hE1 : E.1.length = 16) (hR : R.length = 8) (hRl : ∀ l ∈ R, l.length ≤ S.length) (r : Rdr) (x : RefRdr) (hr : RR S r x) :
    ∃ (s : Sta) (r' : Rdr) (x' : RefRdr),
    (bnd (state_names.f k L) fun r1 =>
    bnd (dots_Of.f k r1) fun r2 =>
    bnd (pack_Reader_Fault.f k r) fun r3 =>
    br (ieq r3.1 0)
      (bnd (state_Right.f k (L, (U, (r2, (E, R))))) fun r4 =>
      br (bnot r4)
        (bnd (pack_Reader_Fail.f k 2 r3.2) fun r5 =>
        bnd (pack_Reader_Fault.f k r5.2) fun r6 =>
        br (bnot (ieq r6.1 0))
          (some (([], ([], (((zarr 16 0), []), (((zarr 16 0), []), (zarr 8 []))))), r6.2))
          (some ((L, (U, (r2, (E, R)))), r6.2)))
        (bnd (pack_Reader_Fault.f k r3.2) fun r7 =>
        br (bnot (ieq r7.1 0))
          (some (([], ([], (((zarr 16 0), []), (((zarr 16 0), []), (zarr 8 []))))), r7.2))
          (some ((L, (U, (r2, (E, R)))), r7.2))))
      (bnd (pack_Reader_Fault.f k r3.2) fun r8 =>
      br (bnot (ieq r8.1 0))
        (some (([], ([], (((zarr 16 0), []), (((zarr 16 0), []), (zarr 8 []))))), r8.2))
        (some ((L, (U, (r2, (E, R)))), r8.2)))) = some (s, r') ∧
    (bnd (ref22_Known.f k L) fun r1 =>
    br (ieq x.2.2 0)
      (bnd (ref22_Right.f k (L, (U, (r1, (E, R))))) fun r2 =>
      br (bnot r2)
        (some (([], ([], (((zarr 16 0), []), (((zarr 16 0), []), (zarr 8 []))))), (x.1, (x.2.1, 2))))
        (br (bnot (ieq x.2.2 0))
          (some (([], ([], (((zarr 16 0), []), (((zarr 16 0), []), (zarr 8 []))))), x))
          (some ((L, (U, (r1, (E, R)))), x))))
      (br (bnot (ieq x.2.2 0))
        (some (([], ([], (((zarr 16 0), []), (((zarr 16 0), []), (zarr 8 []))))), x))
        (some ((L, (U, (r1, (E, R)))), x)))) = some (s, x') ∧
    RR S r' x' ∧ LenS S.length s ∧ (∀ t ∈ s.1, SizT k t) ∧ s.2.2.2.2.length = 8 ∧ (x'.2.2 = 0 → RightS k s) := by
  obtain ⟨oc, _, ol⟩ := ofD_can (dotsOf L)
  have hdl : (dotsOf L).length = L.length := by unfold dotsOf; rw [List.length_map]
  have hol : (ofD (dotsOf L)).1.length = 16 := oc.vok.len
  obtain ⟨b1, g1, i1⟩ := state_is k (L, (U, (ofD (dotsOf L), (E, R)))) hol hE1 hR (fun t ht => ⟨(hT t ht).ops, (hT t ht).each⟩) (fun l hl => by have := hRl l hl; omega) (by show U.length < k; omega) (by show (ofD (dotsOf L)).2.length < k; omega) hk hk2
  obtain ⟨b2, g2, i2⟩ := rrightS_isG k (L, (U, (ofD (dotsOf L), (E, R)))) hol hE1 hR (fun t ht => (hT t ht).chk (by omega) hk2) (fun l hl => by have := hRl l hl; omega) (by show U.length < k; omega) hk hk2
  have hbb : b1 = b2 := by rw [Bool.eq_iff_iff, i1, i2]
  subst hbb
  rw [names_is k L (by omega) hk2, known_isG k L (by omega) hk2, known_ofD]
  simp only [bnd_some]
  rw [of_is k _ (by omega) hk2]
  simp only [bnd_some]
  rw [g1, g2]
  simp only [bnd_some, fault_is, fail_is, ieq_dec, bnot_dec, br_dec]
  have ls : LenS S.length (L, (U, (ofD (dotsOf L), (E, R)))) := ⟨hL, hU, by show (ofD (dotsOf L)).2.length ≤ _; omega, hE, hRl⟩
  have e8 : emptyS.2.2.2.2.length = 8 := by simp [emptyS, zarr]
  obtain ⟨s2, c1⟩ := r
  obtain ⟨S2, a2, c2⟩ := x
  have hb : c1 = c2 := hr.bad
  subst hb
  by_cases hz : c1 = 0
  · subst hz
    simp only [if_true]
    cases b1 with
    | true =>
      have e : bnot true = false := rfl
      simp only [e, br_false, not_true, if_false]
      exact ⟨_, _, _, rfl, rfl, hr, ls, hT, hR, fun _ => i1.1 rfl⟩
    | false =>
      have e : bnot false = true := rfl
      simp only [e, br_true]
      exact ⟨emptyS, _, _, rfl, rfl, hr.fail (e := 2) (by decide) rfl, emptyS_len _, fun t ht => by simp [emptyS] at ht, e8, fun hh => by cases hh⟩
  · simp only [hz, not_false_eq_true, if_true, if_false]
    exact ⟨emptyS, _, _, rfl, rfl, hr, emptyS_len _, fun t ht => by simp [emptyS] at ht, e8, fun hh => absurd hh hz⟩
theorem star_l (k : Nat) (S : List UInt8) (hS : S.length < 5000) (hk : 5000 < k) (hk2 : k < 1000000) (L : List Txn) (U : List Undo) (E : DSet) (hL : L.length ≤ S.length) (hT : ∀ t ∈ L, SizT k t) (hU : U.length ≤ S.length) (hE : E.2.length ≤ S.length) (hE1 : E.1.length = 16) : ∀ (n i : Nat) (R : List (List Dot)) (r : Rdr) (x : RefRdr), i ≤ 8 → 8 < n + i → R.length = 8 → (∀ l ∈ R, l.length ≤ S.length) → RR S r x →
    ∃ (s : Sta) (r' : Rdr) (x' : RefRdr), state_Read.l3 k n (i : Int) [] [] (zarr 16 0) [] (zarr 16 0) [] (zarr 8 []) L U (zarr 16 0) [] (E, R) r = some (s, r') ∧ ref22_Read.l6 k n (i : Int) [] [] (zarr 16 0) [] (zarr 16 0) [] (zarr 8 []) L U (zarr 16 0) [] (E, R) x = some (s, x') ∧ RR S r' x' ∧ LenS S.length s ∧ (∀ t ∈ s.1, SizT k t) ∧ s.2.2.2.2.length = 8 ∧ (x'.2.2 = 0 → RightS k s)
  | 0, i, _, _, _, h, h', _, _, _ => by omega
  | n + 1, i, R, r, x, h, h', hR, hRl, hr => by
    rw [state_Read.l3_eq, ref22_Read.l6_eq, show ilt (i : Int) 8 = decide (i < 8) from ilt_nn i 8, inB_nat, natOf_nat]
    by_cases hi : i < 8
    · obtain ⟨l, r1, x1, e1, e2, h1, hl, _⟩ := lread_is k S 1000 r x hr (by omega) (by omega) (by omega)
      have e4 : iadd .i64 (i : Int) 1 = ((i + 1 : Nat) : Int) := iadd_nat (by omega)
      rw [decide_eq_true hi, e1, e2, e4]
      simp only [br_true, bnd_some]
      exact star_l k S hS hk hk2 L U E hL hT hU hE hE1 n (i + 1) _ r1 x1 (by omega) (by omega) (by simp [upd, hR]) (upd_mem hRl hl) h1
    · rw [decide_eq_false hi, br_false, br_false]
      exact sta_fin k S hS hk hk2 L U E R hL hT hU hE hE1 hR hRl r x hr
theorem star_is (k : Nat) (S : List UInt8) (r : Rdr) (x : RefRdr) (h : RR S r x) (hS : S.length < 5000) (hk : 5000 < k) (hk2 : k < 1000000) :
    ∃ (s : Sta) (r' : Rdr) (x' : RefRdr), state_Read.f k r = some (s, r') ∧ ref22_Read.f k x = some (s, x') ∧ RR S r' x' ∧ LenS S.length s ∧ (∀ t ∈ s.1, SizT k t) ∧ s.2.2.2.2.length = 8 ∧ (x'.2.2 = 0 → RightS k s) := by
  obtain ⟨L, r1, x1, e1, e2, h1, hL, hT⟩ := tlr_is k S 1000 r x h hS hk hk2
  obtain ⟨U, r2, x2, e3, e4, h2, hU⟩ := tread_is k S 1048576 r1 x1 h1 hS hk hk2
  obtain ⟨E, r3, x3, e5, e6, h3, hE, hE1, _⟩ := dread_is k S r2 x2 h2 hS hk hk2
  rw [state_Read.f_eq, ref22_Read.f_eq, e1, e2]
  simp only [bnd_some]
  rw [e3, e4]
  simp only [bnd_some]
  rw [e5, e6]
  simp only [bnd_some]
  exact star_l k S hS hk hk2 L U E hL hT hU hE hE1 k 0 (zarr 8 []) r3 x3 (by omega) (by omega) (by simp [zarr]) (emptyS_len S.length).re h3
end Go.Proofs.YtbiihldcljemfaaGreatDoor
end
section
/- Chapter 22's example: it is as it is told. -/
namespace Go.Proofs.YtbiihldcljemfaaGreatDoor
open Pal
set_option maxRecDepth 100000 in
theorem law22_awake.is (k : Nat) : law22_awake.f (k + 60) = some true := by kernel_rfl
theorem awake22 {k : Nat} (h : 60 ≤ k) : law22_awake.f k = some true := by
  obtain ⟨q, rfl⟩ : ∃ q, k = q + 60 := ⟨k - 60, by omega⟩
  exact law22_awake.is q
end Go.Proofs.YtbiihldcljemfaaGreatDoor
end
section
/- The plain law: the run of StateReads answers true for every input. -/
set_option linter.unusedVariables false
set_option linter.unusedSimpArgs false
namespace Go.Proofs.YtbiihldcljemfaaGreatDoor
open Pal
theorem stateReads_core (k : Nat) (hk : 6000 ≤ k) (hk2 : k < 1000000) (s : List UInt8) (hs : s.length ≤ 600) :
    (bnd (pack_Open.f k s) fun r8 =>
    bnd (state_Read.f k r8.2) fun r9 =>
    bnd (ref22_Read.f k (s, (0, 0))) fun r10 =>
    bnd (ref22_Same.f k r9.1 r10.1) fun r11 =>
    br r11
      (bnd (pack_Reader_Fault.f k r9.2) fun r12 =>
      br (ieq r12.1 r10.2.2.2)
        (bnd (pack_Reader_Left.f k r12.2) fun r13 =>
        bnd (ref02_Reader_Left.f k r10.2) fun r14 =>
        br (ieq r13.1 r14.1)
          (bnd (law22_awake.f k) fun r15 =>
          some r15)
          (some false))
        (some false))
      (some false)) = some true := by
  have aw : law22_awake.f k = some true := awake22 (by omega)
  obtain ⟨d, r1, x1, e1, e2, h1, ls, hT, h8, _⟩ := star_is k s _ _ (open_rr s) (by omega) (by omega) hk2
  obtain ⟨n1, f1, f2⟩ := left_is k s r1 x1 h1 (by omega)
  rw [pack_Open.f_eq]
  simp only [bnd_some]
  rw [e1, e2]
  simp only [bnd_some]
  obtain ⟨b, g1, g2⟩ := rsameS_is k d d ls (fun t ht => (hT t ht).len) h8 h8 (by omega) (by omega) hk2
  have hb : b = true := g2.2 rfl
  subst hb
  rw [g1]
  simp only [bnd_some, br_true, fault_is, f1, f2, ieq_dec, h1.bad, decide_true, aw]
theorem stateReads_true (s : Ty.D .str) (_ : Fits .str s) : ∃ k, law22_StateReads.f k s = some true := by
  refine ⟨6000, ?_⟩
  rw [law22_StateReads.f_eq]
  have e : ilt 600 (ilen s) = decide (600 < List.length s) := by unfold ilt ilen; exact decide_eq_decide.2 ⟨fun h => by omega, fun h => by omega⟩
  rw [e]
  by_cases hs : 600 < List.length s
  · rw [decide_eq_true hs, br_true]
    have hin : inS 0 600 (ilen s) = true := by
      have : (600 : Int) ≤ (List.length s : Int) := by omega
      show (decide ((0 : Int) ≤ 0) && decide ((0 : Int) ≤ 600) && decide ((600 : Int) ≤ (List.length s : Int))) = true
      rw [decide_eq_true this]; rfl
    rw [hin, br_true]
    exact stateReads_core 6000 (by decide) (by decide) (piece s 0 600) (by unfold piece; rw [List.length_drop, List.length_take]; omega)
  · rw [decide_eq_false hs, br_false]
    exact stateReads_core 6000 (by decide) (by decide) s (by omega)
end Go.Proofs.YtbiihldcljemfaaGreatDoor
end
section
/- The pinned tables of unicode/utf8, out of what a tied row lists. -/
namespace Go.Proofs.YtbiihldcljemfaaGreatDoor
open Go Go.Proofs Go.Lib
open Pal
theorem tabs_reads {W : World} (h3 : VarReads Tryz.prog W "unicode/utf8.first" firstData) (h4 : VarReads Tryz.prog W "unicode/utf8.acceptRanges" acceptData) : MonoC.tab (img W) := by
  have h := utf8Tabs_of_readsT (U8Types.of260 { laysU8 with }) u8Extra h3 h4
  exact ⟨h.1, h.2⟩
end Go.Proofs.YtbiihldcljemfaaGreatDoor
end
section
/- The statement of the law StateReads, as a tied card: for every input the law returns true, and its arguments read as they did. The listed tables hold what the program's text lays. No other conditions. -/
namespace Go.Proofs.YtbiihldcljemfaaGreatDoor.stateReadsDone
open Go.ChangeShapes Go.WideShapes Go.ChangeAt Go.RowKit
open Pal
set_option linter.unusedVariables false

theorem own : ownKnob Tryz.prog.godebug = none := by kernel_rfl
theorem laidOut : laidOutB Tryz.prog = true := by kernel_rfl
set_option maxRecDepth 100000 in
theorem door_met (os : Os) (args : Array Value) : laidMetH Tryz.prog Rows.stateReadsRow.laid ((World.laidAll Tryz.prog os Rows.stateReadsRow.laid).forCall (fun _ _ => 0) ⟨#[], args, []⟩).memory := by
  rw [MakeChecks.laidMetH_plain _ _ _ (by kernel_rfl)]; exact laidMet_laidAll _ (by kernel_rfl) (by kernel_rfl)
theorem tabs_of {W : World} (hL : laidMetH Tryz.prog Rows.stateReadsRow.laid W) : MonoC.tab (img W) := by
  rw [MakeChecks.laidMetH_plain _ _ _ (by kernel_rfl)] at hL
  have h3 := Lib.laidMet.reads hL (n := "unicode/utf8.first") (d := Go.Pinned.utf8First) (by simp [Rows.stateReadsRow, Rows.laid_unicode_utf8_first])
  have h4 := Lib.laidMet.reads hL (n := "unicode/utf8.acceptRanges") (d := Rows.laid_unicode_utf8_acceptRanges) (by simp [Rows.stateReadsRow])
  rw [Pinned.utf8First_eq] at h3
  exact tabs_reads h3 (show Lib.VarReads Tryz.prog W "unicode/utf8.acceptRanges" Lib.acceptData from (show Rows.laid_unicode_utf8_acceptRanges = Lib.acceptData by kernel_rfl) ▸ h4)
theorem ty0 : tyB Tryz.prog 40 9 .str = true := by kernel_rfl

theorem walk (W : World) (hTab : MonoC.tab (img W)) (v0 : Value) (x0 : Ty.D .str) (h0 : TRep (gh0 W) W (.dat .str x0) v0 []) (f0 : Fits .str x0) :
    Calls Tryz.prog 3 #[v0] W fun e w' => e = .returned (.bool true) ∧ Below W.heap.size W w' := by
  obtain ⟨k, hk⟩ := stateReads_true x0 f0
  exact law_calls' (args := [.dat .str x0]) (argv := [v0]) (code := law22_StateReads.body) (σ := law22_StateReads.sg) (F := fun x => law22_StateReads.f k x) (x := (x0)) (r := true) (law22_StateReads.ok k) Tryz.func3 (by kernel_rfl) (by kernel_rfl) (by kernel_rfl) (by kernel_rfl) hk rfl rfl
    ⟨v0, _, [], [], rfl, rfl, h0, ⟨rfl, rfl⟩⟩ hTab

set_option maxRecDepth 100000 in
theorem lifted (os : Os) (started : os.Started) (H : Type) (enc : TypeId × Value → H) :
    ReturnsInHanded {} Tryz.checked os 3 .any (fun w args => (Rows.stateReadsSpec.pre enc Tryz.prog Tryz.f3 [] false w args ∧ laidMetH Tryz.prog Rows.stateReadsRow.laid w) ∧ sizedMet enc Tryz.prog Tryz.f3 (OpenSpec.ofChange Rows.stateReadsSpec) false w args)
      (Rows.stateReadsSpec.post enc Tryz.prog Tryz.f3 false true false false) := by
  refine returnsInHanded_of_change_and (C := Tryz.checked) (X := fun w _ => laidMetH Tryz.prog Rows.stateReadsRow.laid w) (fun _ _ _ hh h => h.of_heap hh) own started (by kernel_rfl) Tryz.func3
    (ChangeSpec.witness_shaped (enc := enc) (C := Tryz.checked) (os := os) (X := fun w _ => laidMetH Tryz.prog Rows.stateReadsRow.laid w) false (World.laidAll Tryz.prog os Rows.stateReadsRow.laid) #[.string ByteArray.empty] 12 (World.laidAll_os _ _ _) (World.shaped_of_ZipB (by kernel_rfl) (by kernel_rfl)) (by kernel_rfl) (by kernel_rfl) (by kernel_rfl) (door_met os _)) ?_
  intro W base args ds gs before hval0 hW _ _ hL _
  have hval : ∀ (j : Nat) t v, Tryz.f3.params[j]? = some t → args[j]? = some v → Value.okWide Tryz.prog W .any base t v := hval0
  have hW' := hW
  obtain ⟨p, q, hA0, hV, rfl, hfz, hnd⟩ := hW
  have hA : DataW.TrodAll enc Tryz.prog W 0 (fun _ => true) true Tryz.f3.params.toList args.toList ds p := hA0
  rw [Tryz.params3] at hA hval
  obtain ⟨v0, vs0, d0, ds0, p0, q0, hargs, rfl, rfl, h0, r0⟩ := trodAll_cons hA
  obtain ⟨rfl, rfl, rfl⟩ := trodAll_nil r0
  obtain rfl : args = #[v0] := by cases args; simp_all
  obtain ⟨rfl, rfl⟩ := trodVars_none hV
  have k0 := h0
  have lt0 : ∀ x ∈ p0, x.block < W.heap.size := by obtain ⟨m, hm⟩ := k0; exact DataW.trod_lt m _ _ _ hm
  obtain ⟨x0, g0, f0⟩ := arg_open ty0 (hval 0 9 v0 rfl rfl) h0
  clear hA0 hval0
  refine (walk W (tabs_of hL) v0 x0 g0 f0).mono fun e W' ⟨he, bel⟩ => ?_
  subst he
  exact ⟨_, rfl, _, _, _, [], _, [], hW', trodAll_mk1 (shut_bool Tryz.underlying4 _), (trodAll_cons_mk (Below.trod laidOut (by kernel_rfl) (of_decide_eq_true (by kernel_rfl)) k0 bel lt0) trodAll_mk0), rfl, bel.frame _, fun h => by cases h⟩

theorem over : Rows.stateReadsRow.holds Tryz.pinned (OpenSpec.ofChange Rows.stateReadsSpec) :=
  OpenClaim.holds_of_wide 3 Tryz.f3 rfl rfl rfl rfl rfl rfl rfl ⟨rfl, rfl, rfl, rfl, rfl⟩ rfl rfl rfl rfl rfl (by kernel_rfl) Tryz.func3 (by kernel_rfl)
    (of_decide_eq_true (by kernel_rfl)) (by unfold Func.isWrapper; first | (rw [if_pos (by decide +kernel)]; kernel_rfl) | (rw [if_neg (by decide +kernel)]; exact ⟨rfl, rfl⟩))
    (fun os started H enc _ => lifted os started H enc)

theorem proved : Rows.StateReadsCardSaid :=
  Claim7.holds_tied_plain_at .later [] [.data, .pinned] true (true, "bb2cfd6679e48c08ac3e22f2b3e002716632cbad37e69db64fdce12985108230") false
    over (fun _ h => by cases h) (by kernel_rfl) (fun _ h => by cases h) stateReads_row_tie rfl ⟨rfl, rfl⟩ (by kernel_rfl) rfl
    (fun f fn hf hfn => by
      obtain rfl : f = 3 := Option.some.inj ((show Tryz.prog.funcNamed "palinode/palinodelaw22.StateReads" = some 3 by kernel_rfl).symm.trans hf) |>.symm
      obtain rfl : fn = Tryz.f3 := (Option.some.inj (Tryz.func3.symm.trans hfn)).symm
      exact ⟨by kernel_rfl, fun j t ht => by
        rw [Tryz.params3] at ht
        have hm : t ∈ [9] := by simpa using Array.mem_of_getElem? ht
        have hall : ([9].all fun u => !Tryz.prog.wantsStandIn u) = true := by kernel_rfl
        exact (show Tryz.prog.wantsStandIn t = false by simpa using List.all_eq_true.1 hall t hm)⟩)
    (by kernel_rfl)
#print axioms proved
end Go.Proofs.YtbiihldcljemfaaGreatDoor.stateReadsDone
end
