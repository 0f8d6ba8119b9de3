/- The statement of the law StateBack, as a tied card: for every input the law returns true, and its arguments read as they did. The listed tables hold what the program's text lays. No other conditions. -/
import Derived.KernelRfl
import Derived.PinnedBridge
import Derived.Lib.LaidU8T
import Derived.MakeChecks
import Derived.Test.YtbiihldcljemfaaGreatDoorRows
import Derived.Test.YtbiihldcljemfaaGreatDoorTie
import Derived.Test.YtbiihldcljemfaaGreatDoorCards
import Derived.WalkKit
import Derived.ProofKit
import Derived.OpenShut
import Derived.ShutString
import Derived.ChangeOld
import Derived.Below
import Derived.LaidMore
import Derived.Stop.Joined
import Derived.SevenTiedAt
import Derived.Lay
import Derived.Test.YtbiihldcljemfaaGreatDoorFw1
import Derived.Test.YtbiihldcljemfaaGreatDoorFw2
import Derived.Test.YtbiihldcljemfaaGreatDoorFw3
import Derived.Test.YtbiihldcljemfaaGreatDoorStateBack1
import Derived.Test.YtbiihldcljemfaaGreatDoorStateBack2
import Derived.Test.YtbiihldcljemfaaGreatDoorStateBack3
set_option linter.unusedVariables false
set_option linter.unusedSimpArgs false
set_option linter.unusedSectionVars false
section
/- How long a transaction's parts are. -/
set_option linter.unusedVariables false
set_option linter.unusedSimpArgs false
namespace Go.Proofs.YtbiihldcljemfaaGreatDoor
open Pal
structure SizT (k : Nat) (t : Txn) : Prop where
  ops : t.2.2.2.2.length < k
  each : ∀ o ∈ t.2.2.2.2, SizO k o
theorem SizT.len {k : Nat} {t : Txn} (h : SizT k t) : LenT k t := ⟨h.ops, fun o ho => ⟨(h.each o ho).names, (h.each o ho).seen⟩⟩
theorem txn_rt (k : Nat) (t : Txn) (h : ref12_Check.f k t = some 0) : rightD t.1 = true := by
  rw [ref12_Check.f_eq, rright_is, bnd_some] at h
  cases hr : rightD t.1 with
  | true => rfl
  | false =>
    rw [hr] at h
    have bf : bnot false = true := rfl
    rw [bf, br_true] at h
    cases h
theorem SizT.chk {k : Nat} {t : Txn} (h : SizT k t) (hk : 10 < k) (hk2 : k < 1000000) : ∃ e : Int, ref12_Check.f k t = some e ∧ (e = 0 → rightD t.1 = true) := by
  obtain ⟨e, _, g⟩ := txn_is k t h.each h.ops hk hk2
  exact ⟨e, g, fun he => txn_rt k t (by rw [g, he])⟩
end Go.Proofs.YtbiihldcljemfaaGreatDoor
end
section
/- What is told of texts, paths, values and operations is read again. -/
set_option linter.unusedVariables false
set_option linter.unusedSimpArgs false
namespace Go.Proofs.YtbiihldcljemfaaGreatDoor
open Pal
def codeX (s : Str) : List UInt8 := packB (List.length s) ++ s
theorem codeX_len (s : Str) (h : List.length s < 1000000) : (codeX s).length ≤ 8 + List.length s := by
  have := packB_le (n := List.length s) (by omega)
  unfold codeX; rw [List.length_append]; omega
theorem codeX_pos (s : Str) : 0 < (codeX s).length := by
  unfold codeX; rw [List.length_append]; have := packB_pos (List.length s); omega
theorem text_code (k : Nat) (s : Str) (h : List.length s < 1000000) : pack_Text.f k s = some (codeX s) := by
  have e : (ilen s).toNat = List.length s := rfl
  have hp := packB_le (n := List.length s) (by omega)
  rw [pack_Text.f_eq, packI_is (n := ilen s) (by unfold ilen; omega), e, bnd_some, roomS_ok (by omega) (by omega)]; rfl
theorem back_text (k : Nat) (s : Str) (t : List UInt8) (hk : 12 < k) (hS : (codeX s ++ t).length < 4000000) : pack_Reader_Text.f k (codeX s ++ t, 0) = some (s, (t, 0)) := by
  have ea : codeX s ++ t = packB (List.length s) ++ (s ++ t) := by unfold codeX; rw [List.append_assoc]
  rw [ea] at hS ⊢
  have hl : List.length s ≤ (s ++ t).length := by rw [List.length_append]; omega
  have hS2 : (s ++ t).length < 4000000 := by rw [List.length_append] at hS; omega
  have e1 : ilt (ilen (s ++ t)) (List.length s : Int) = false := by unfold ilt ilen; exact decide_eq_false (by omega)
  have i1 : inS 0 (List.length s : Int) (ilen (s ++ t)) = true := inS_nn (a := 0) (by omega) hl
  have i2 : inS (List.length s : Int) (ilen (s ++ t)) (ilen (s ++ t)) = true := inS_nn (b := (s ++ t).length) (c := (s ++ t).length) hl (by omega)
  have p1 : piece (s ++ t) 0 (List.length s : Int) = s := by unfold piece; simp
  have p2 : piece (s ++ t) (List.length s : Int) (ilen (s ++ t)) = t := by
    unfold piece ilen; rw [Int.toNat_natCast, Int.toNat_natCast, List.take_length]; simp
  have bt : bnot true = false := rfl
  rw [pack_Reader_Text.f_eq, back_int k _ _ hk (by omega) hS]
  simp only [bnd_some, fine_is, decide_true, br_true, e1, br_false, bt, i1, i2, p1, p2]
def codeP (p : List Str) : List UInt8 := packB p.length ++ p.flatMap codeX
theorem codeP_le {p : List Str} (h : ShortP p) : (codeP p).length ≤ 1544 := by
  have hp := packB_le (n := p.length) (by have := h.1; omega)
  have := codes_le codeX 128 p (fun s hs => by have h1 := h.2 s hs; have := codeX_len s (by omega); omega)
  have h1 := h.1
  unfold codeP; rw [List.length_append]; omega
theorem pcode_l (k : Nat) (p : List Str) (hs : ∀ s ∈ p, List.length s ≤ 120) (hl : p.length < 10000) : ∀ (n i : Nat) (x : List UInt8), i ≤ p.length → p.length < n + i → x.length ≤ 100 + 128 * i → path_Code.l3 k n x p (ilen p) (i : Int) = some (x ++ (p.drop i).flatMap codeX)
  | 0, i, _, h, h', _ => by omega
  | n + 1, i, x, h, h', hx => by
    rw [path_Code.l3_eq, ilt_nat, inL_nat, natOf_nat]
    by_cases hi : i < p.length
    · have hd := hs p[i] (List.getElem_mem hi)
      have hp := codeX_len p[i] (by omega)
      have e4 : iadd .i64 (i : Int) 1 = ((i + 1 : Nat) : Int) := iadd_nat (by omega)
      have ed : p.drop i = p[i] :: p.drop (i + 1) := List.drop_eq_getElem_cons hi
      rw [decide_eq_true hi, rd_at' (e := .str) hi, text_code k _ (by omega), e4, ed, List.flatMap_cons]
      simp only [br_true, bnd_some]
      rw [roomS_ok (by omega) (by omega), br_true]
      refine (pcode_l k p hs hl n (i + 1) _ (by omega) (by omega) (by unfold app; rw [List.length_append]; omega)).trans ?_
      unfold app; rw [List.append_assoc]
    · have e0 : p.drop i = [] := List.drop_eq_nil_of_le (by omega)
      rw [decide_eq_false hi, br_false, e0]; simp
theorem pcode_is (k : Nat) {p : List Str} (h : ShortP p) (hk : 12 < k) (hk2 : k < 1000000) : path_Code.f k p = some (codeP p) := by
  have h1 := h.1
  have e : (ilen p).toNat = p.length := rfl
  have hp := packB_le (n := p.length) (by omega)
  rw [path_Code.f_eq, packI_is (n := ilen p) (by unfold ilen; omega), e, bnd_some]
  exact pcode_l k p h.2 (by omega) k 0 _ (by omega) (by omega) (by omega)
theorem back_p3 (k : Nat) (hk : 12 < k) (N : Nat) (hN : N < 10000) (t : List UInt8) (p : List Str) (hc : path_Check.f k p = some 0) : ∀ (n i : Nat) (x l : List Str), i + l.length = N → N < n + i → x.length = i → x ++ l = p → (l.flatMap codeX ++ t).length < 4000000 →
    path_Read.l3 k n x (N : Int) (i : Int) (l.flatMap codeX ++ t, 0) = some (p, (t, 0))
  | 0, i, _, _, h, h', _, _, _ => by omega
  | n + 1, i, x, [], h, _, _, hp, _ => by
    have hi : N = i := by simpa using h.symm
    subst hi
    rw [List.append_nil] at hp
    subst hp
    rw [path_Read.l3_eq, ilt_nn, decide_eq_false (Nat.lt_irrefl _)]
    have bt : bnot true = false := rfl
    simp only [br_false, fault_is, bnd_some, ieq_dec, decide_true, br_true, hc, fail_is, if_true, bt, List.append_nil, List.flatMap_nil, List.nil_append]
  | n + 1, i, x, d :: l, h, h', hx, hp, hS => by
    simp only [List.length_cons] at h
    have e4 : iadd .i64 (i : Int) 1 = ((i + 1 : Nat) : Int) := iadd_nat (by omega)
    have ea : (d :: l).flatMap codeX ++ t = codeX d ++ (l.flatMap codeX ++ t) := by rw [List.flatMap_cons, List.append_assoc]
    rw [ea] at hS ⊢
    have hS2 : (l.flatMap codeX ++ t).length < 4000000 := by rw [List.length_append] at hS; omega
    rw [path_Read.l3_eq, ilt_nn, decide_eq_true (show i < N by omega), back_text k d _ hk hS, e4]
    simp only [br_true, bnd_some, room1 (show x.length < 4000000 by omega)]
    exact back_p3 k hk N hN t p hc n (i + 1) (app x (d :: [])) l (by omega) (by omega) (by simp [app, hx]) (by unfold app; rw [List.append_assoc]; exact hp) hS2
theorem back_path (k : Nat) (p : List Str) (t : List UInt8) (hc : path_Check.f k p = some 0) (hm : p.length ≤ 8) (hk : 12 < k) (hk2 : k < 1000000) (hS : (codeP p ++ t).length < 4000000) :
    path_Read.f k (codeP p ++ t, 0) = some (p, (t, 0)) := by
  have ea : codeP p ++ t = packB p.length ++ (p.flatMap codeX ++ t) := by unfold codeP; rw [List.append_assoc]
  rw [ea] at hS ⊢
  have hS2 : (p.flatMap codeX ++ t).length < 4000000 := by rw [List.length_append] at hS; omega
  have hlen := codes_len codeX codeX_pos p
  rw [path_Read.f_eq, back_many k _ 8 _ hk (by omega) (by omega) (by rw [List.length_append]; omega) hS]
  simp only [bnd_some]
  exact back_p3 k hk p.length (by omega) t p hc k 0 [] p (by omega) (by omega) rfl rfl hS2
def foldN (i : Int) : Nat := if i < 0 then (-2 * i - 1).toNat else (2 * i).toNat
theorem foldN_le {i : Int} (h1 : -2147483647 ≤ i) (h2 : i ≤ 2147483647) : foldN i < 72057594037927936 := by
  unfold foldN; split <;> omega
theorem fold_is (k : Nat) (i : Int) (h1 : -2147483647 ≤ i) (h2 : i ≤ 2147483647) : value_Fold.f k i = some ((foldN i : Nat) : Int) := by
  rw [value_Fold.f_eq]
  unfold foldN
  by_cases h : i < 0
  · have m : imul .i64 (-2) i = -2 * i := by
      show IntKind.wrap .i64 (-2 * i) = _
      rw [wrap64 (by omega) (by omega)]
    have s : isub .i64 (-2 * i) 1 = -2 * i - 1 := by
      show IntKind.wrap .i64 (-2 * i - 1) = _
      rw [wrap64 (by omega) (by omega)]
    rw [show ilt i 0 = true from decide_eq_true h, br_true, m, s, if_pos h, Int.toNat_of_nonneg (by omega)]
  · have m : imul .i64 2 i = 2 * i := by
      show IntKind.wrap .i64 (2 * i) = _
      rw [wrap64 (by omega) (by omega)]
    rw [show ilt i 0 = false from decide_eq_false h, br_false, m, if_neg h, Int.toNat_of_nonneg (by omega)]
theorem unf_fold (i : Int) (h1 : -2147483647 ≤ i) (h2 : i ≤ 2147483647) : unf (foldN i) = i := by
  unfold unf foldN
  by_cases h : i < 0
  · rw [if_pos h]
    obtain ⟨m, hm⟩ : ∃ m : Nat, i = -((m : Int) + 1) := ⟨(-i - 1).toNat, by omega⟩
    have e : (-2 * i - 1).toNat = 2 * m + 1 := by omega
    rw [e, if_neg (by omega)]; omega
  · rw [if_neg h]
    obtain ⟨m, hm⟩ : ∃ m : Nat, i = (m : Int) := ⟨i.toNat, by omega⟩
    have e : (2 * i).toNat = 2 * m := by omega
    rw [e, if_pos (by omega)]; omega
structure ValOK (v : Val) : Prop where
  kind : 1 ≤ v.1 ∧ v.1 ≤ 3
  text : v.1 = 2 → v.2.1 = 0
  num : v.1 ≠ 2 → v.2.2 = [] ∧ -2147483647 ≤ v.2.1 ∧ v.2.1 ≤ 2147483647
theorem seq_nil {s : Str} (h : seq s [] = true) : s = [] := by
  cases s with
  | nil => rfl
  | cons a l => cases h
theorem val_ok (k : Nat) (v : Val) (h : value_Right.f k v = some true) : ValOK v := by
  rw [value_Right.f_eq] at h
  obtain ⟨K, A, s⟩ := v
  simp only at h
  by_cases h1 : K = 1
  · subst h1
    rw [show ieq (1 : Int) 1 = true from rfl, br_true] at h
    cases hq : seq s [] with
    | false => rw [hq, br_false] at h; cases h
    | true =>
      rw [hq, br_true, show ile (-2147483647) A = decide (-2147483647 ≤ A) from rfl] at h
      by_cases h2 : -2147483647 ≤ A
      · rw [decide_eq_true h2, br_true] at h
        injection h with h
        exact ⟨by show (1 : Int) ≤ 1 ∧ (1 : Int) ≤ 3; decide, fun h => (by cases h), fun _ => ⟨seq_nil hq, h2, of_decide_eq_true h⟩⟩
      · rw [decide_eq_false h2, br_false] at h; cases h
  by_cases h2 : K = 2
  · subst h2
    rw [show ieq (2 : Int) 1 = false from rfl, show ieq (2 : Int) 2 = true from rfl, br_false, br_true] at h
    refine ⟨by show (1 : Int) ≤ 2 ∧ (2 : Int) ≤ 3; decide, fun _ => ?_, fun h => absurd rfl h⟩
    cases hr : runesB s with
    | none => rw [hr] at h; cases h
    | some r =>
      rw [hr, bnd_some] at h
      cases h2 : r.2 with
      | false => rw [h2, br_false] at h; cases h
      | true =>
        rw [h2, br_true, ieq_dec] at h
        by_cases h0 : A = 0
        · exact h0
        · rw [decide_eq_false h0, br_false] at h; cases h
  by_cases h3 : K = 3
  · subst h3
    rw [show ieq (3 : Int) 1 = false from rfl, show ieq (3 : Int) 2 = false from rfl, show ieq (3 : Int) 3 = true from rfl, br_false, br_false, br_true] at h
    cases hq : seq s [] with
    | false => rw [hq, br_false] at h; cases h
    | true =>
      rw [hq, br_true, ieq_dec] at h
      refine ⟨by show (1 : Int) ≤ 3 ∧ (3 : Int) ≤ 3; decide, fun h => (by cases h), fun _ => ⟨seq_nil hq, ?_⟩⟩
      show -2147483647 ≤ A ∧ A ≤ 2147483647
      by_cases h0 : A = 0
      · omega
      · rw [decide_eq_false h0, br_false, ieq_dec] at h
        injection h with h
        have := of_decide_eq_true h
        omega
  · have f : ∀ c : Int, K ≠ c → ieq K c = false := fun c hc => by rw [ieq_dec]; exact decide_eq_false hc
    rw [f 1 h1, f 2 h2, f 3 h3, br_false, br_false, br_false] at h
    cases h
def codeVal (v : Val) : List UInt8 := packB v.1.toNat ++ (if v.1 = 2 then codeX v.2.2 else packB (foldN v.2.1))
theorem codeVal_le {v : Val} (hv : ValOK v) (hl : v.2.2.length ≤ 200) : (codeVal v).length ≤ 216 := by
  have h1 := hv.kind
  have p1 := packB_le (n := v.1.toNat) (by omega)
  unfold codeVal; rw [List.length_append]
  split
  · have := codeX_len v.2.2 (by omega); omega
  · rename_i h2
    obtain ⟨_, a, b⟩ := hv.num h2
    have := packB_le (foldN_le a b); omega
theorem vacode_is (k : Nat) {v : Val} (hv : ValOK v) (hl : v.2.2.length ≤ 200) : value_Code.f k v = some (codeVal v) := by
  have h1 := hv.kind
  have p1 := packB_le (n := v.1.toNat) (by omega)
  unfold codeVal
  rw [value_Code.f_eq, packI_is (n := v.1) (by omega), ieq_dec]
  by_cases h2 : v.1 = 2
  · have := codeX_len v.2.2 (by omega)
    rw [decide_eq_true h2, br_true, bnd_some, text_code k _ (by omega), bnd_some, roomS_ok (by omega) (by omega), br_true, if_pos h2]; rfl
  · obtain ⟨_, a, b⟩ := hv.num h2
    have hb := foldN_le a b
    have := packB_le hb
    rw [decide_eq_false h2, br_false, bnd_some, fold_is k _ a b, bnd_some, packI_is (n := ((foldN v.2.1 : Nat) : Int)) (by omega), Int.toNat_natCast, bnd_some, roomS_ok (by omega) (by omega), br_true, if_neg h2]; rfl
theorem back_val (k : Nat) {v : Val} (t : List UInt8) (h : value_Right.f k v = some true) (hk : 12 < k) (hS : (codeVal v ++ t).length < 4000000) : value_Read.f k (codeVal v ++ t, 0) = some (v, (t, 0)) := by
  have hv := val_ok k v h
  have h1 := hv.kind
  have e1 : ((v.1.toNat : Nat) : Int) = v.1 := Int.toNat_of_nonneg (by omega)
  have bt : bnot true = false := rfl
  by_cases h2 : v.1 = 2
  · have ea : codeVal v ++ t = packB v.1.toNat ++ (codeX v.2.2 ++ t) := by unfold codeVal; rw [if_pos h2, List.append_assoc]
    rw [ea] at hS ⊢
    have hS2 : (codeX v.2.2 ++ t).length < 4000000 := by rw [List.length_append] at hS; omega
    have ev : (v.1, ((0 : Int), v.2.2)) = v := by rw [← hv.text h2]
    rw [value_Read.f_eq, back_int k _ _ hk (by omega) hS, e1]
    simp only [bnd_some]
    rw [ieq_dec, decide_eq_true h2, br_true, back_text k _ _ hk hS2]
    simp only [bnd_some]
    rw [ev, h]
    simp only [bnd_some, fault_is, ieq_dec, decide_true, br_true, bt, br_false]
  · obtain ⟨e0, a, b⟩ := hv.num h2
    have hb := foldN_le a b
    have ea : codeVal v ++ t = packB v.1.toNat ++ (packB (foldN v.2.1) ++ t) := by unfold codeVal; rw [if_neg h2, List.append_assoc]
    rw [ea] at hS ⊢
    have hS2 : (packB (foldN v.2.1) ++ t).length < 4000000 := by rw [List.length_append] at hS; omega
    obtain ⟨u1, _⟩ := unfold_is k (foldN v.2.1) hb
    rw [unf_fold _ a b] at u1
    have ev : (v.1, (v.2.1, ([] : Str))) = v := by rw [← e0]
    rw [value_Read.f_eq, back_int k _ _ hk (by omega) hS, e1]
    simp only [bnd_some]
    rw [ieq_dec, decide_eq_false h2, br_false, back_int k _ _ hk hb hS2]
    simp only [bnd_some]
    rw [u1]
    simp only [bnd_some]
    rw [ev, h]
    simp only [bnd_some, fault_is, ieq_dec, decide_true, br_true, bt, br_false]
end Go.Proofs.YtbiihldcljemfaaGreatDoor
end
section
/- What is told of operations is read again. -/
set_option linter.unusedVariables false
set_option linter.unusedSimpArgs false
namespace Go.Proofs.YtbiihldcljemfaaGreatDoor
open Pal
theorem path_len (k : Nat) (p : List Str) (h : path_Check.f k p = some 0) : p.length ≤ 8 := by
  rw [path_Check.f_eq, show ilt 8 (ilen p) = decide (8 < p.length) from ilt_lenR 8 p] at h
  generalize ieq (ilen p) 0 = q at h
  cases q with
  | true => rw [br_true] at h; cases h
  | false =>
    rw [br_false] at h
    by_cases h1 : 8 < p.length
    · rw [decide_eq_true h1, br_true] at h; cases h
    · omega
theorem refs_ok (k : Nat) (l : List (Dot × Int)) (h3 : 3 ≤ k) (hl : l.length < 1000000) : ∀ (n i : Nat), i ≤ l.length → l.length < n + i → op_Refs.l2 k n l l (ilen l) (i : Int) = some true → ∀ u ∈ l.drop i, rightD u.1 = true ∧ 0 ≤ u.2 ∧ u.2 < 16
  | 0, i, _, h, _ => by omega
  | n + 1, i, h, h', hb => by
    rw [op_Refs.l2_eq, ilt_nat, inL_nat, natOf_nat] at hb
    by_cases hi : i < l.length
    · rw [decide_eq_true hi, rd_at' (e := tUndo) hi, right_is, iadd_nat (by omega)] at hb
      simp only [br_true, bnd_some] at hb
      rw [List.drop_eq_getElem_cons hi]
      have bt : bnot true = false := rfl
      have bf : bnot false = true := rfl
      cases hr : rightD l[i].1 with
      | false => rw [hr, bf, br_true] at hb; cases hb
      | true =>
        rw [hr, bt, br_false, show ilt l[i].2 0 = decide (l[i].2 < 0) from rfl, show ile 16 l[i].2 = decide (16 ≤ l[i].2) from rfl] at hb
        by_cases h0 : l[i].2 < 0
        · rw [decide_eq_true h0, br_true] at hb; cases hb
        rw [decide_eq_false h0, br_false] at hb
        by_cases h16 : 16 ≤ l[i].2
        · rw [decide_eq_true h16, br_true] at hb; cases hb
        rw [decide_eq_false h16, br_false, show ilt 0 (i : Int) = decide (0 < i) from ilt_nn 0 i] at hb
        have hnext : op_Refs.l2 k n l l (ilen l) ((i + 1 : Nat) : Int) = some true := by
          by_cases hp : 0 < i
          · have hi1 : i - 1 < l.length := by omega
            have e3 : isub .i64 (i : Int) 1 = ((i - 1 : Nat) : Int) := by rw [isub_s (by omega) (by omega) (by omega) (by omega)]; omega
            rw [decide_eq_true hp, br_true, e3, inL_nat, natOf_nat, rd_at' (e := tUndo) hi1, decide_eq_true hi1, br_true, ref_is k _ _ h3, bnd_some] at hb
            cases hq : ile 0 (cmpR l[i - 1] l[i]) with
            | true => rw [hq, br_true] at hb; cases hb
            | false => rw [hq, br_false] at hb; exact hb
          · rw [decide_eq_false hp, br_false] at hb; exact hb
        intro u hu
        rcases List.mem_cons.1 hu with rfl | hu
        · exact ⟨hr, by omega, by omega⟩
        · exact refs_ok k l h3 hl n (i + 1) (by omega) (by omega) hnext u hu
    · rw [List.drop_eq_nil_of_le (by omega)]
      intro u hu; simp at hu
structure OkO (k : Nat) (o : Op) : Prop where
  kind : o.1 = 1 ∨ o.1 = 2 ∨ o.1 = 3 ∨ o.1 = 4 ∨ o.1 = 5
  chk : op_Check.f k o = some 0
  path : path_Check.f k o.2.1 = some 0
  val0 : o.1 = 3 ∨ o.1 = 5 → o.2.2.1 = (0, (0, []))
  valr : o.1 = 1 ∨ o.1 = 2 ∨ o.1 = 4 → value_Right.f k o.2.2.1 = some true
  amt0 : o.1 ≠ 3 → o.2.2.2.1 = 0
  amt3 : -2147483647 ≤ o.2.2.2.1 ∧ o.2.2.2.1 ≤ 2147483647
  seen0 : o.1 = 2 ∨ o.1 = 3 → o.2.2.2.2 = []
  seen : o.2.2.2.2.length ≤ 256 ∧ ∀ u ∈ o.2.2.2.2, rightD u.1 = true ∧ 0 ≤ u.2 ∧ u.2 < 16
theorem nil_of {l : List (Dot × Int)} (h : ilt 0 (ilen l) = false) : l = [] := by
  rw [show ilt 0 (ilen l) = decide (0 < l.length) from ilt_lenR 0 l] at h
  have := of_decide_eq_false h
  exact List.eq_nil_of_length_eq_zero (by omega)
set_option maxHeartbeats 4000000 in
theorem op_ok (k : Nat) (o : Op) (so : SizO k o) (hk : 10 < k) (hk2 : k < 1000000) (h : op_Check.f k o = some 0) : OkO k o := by
  have hsave := h
  obtain ⟨e1, p1, p2⟩ := path_is k o.2.1 so.path hk hk2 so.names
  obtain ⟨b1, v1, v2⟩ := val_is k o.2.2.1 hk so.val hk2
  obtain ⟨b2, r1, r2⟩ := refs_is k o.2.2.2.2 (by omega) so.seen hk2
  have hsl := so.seen
  rw [op_Check.f_eq, op_valued.f_eq, op_amount.f_eq, p1, v1, r1] at h
  have bt : bnot true = false := rfl
  have bf : bnot false = true := rfl
  obtain ⟨K, P, V, A, S⟩ := o
  simp only at h p1 v1 r1 hsl
  by_cases h1 : K < 1
  · rw [show ilt K 1 = true from decide_eq_true h1, br_true] at h; cases h
  by_cases h5 : 5 < K
  · rw [show ilt K 1 = false from decide_eq_false h1, show ilt 5 K = true from decide_eq_true h5, br_false, br_true] at h; cases h
  rw [show ilt K 1 = false from decide_eq_false h1, show ilt 5 K = false from decide_eq_false h5, br_false, br_false, bnd_some] at h
  have he : e1 = 0 := by
    apply Classical.byContradiction
    intro hne
    rw [ieq_dec, decide_eq_false hne, bf, br_true] at h
    injection h with h; exact hne h
  subst he
  rw [show ieq (0 : Int) 0 = true from rfl, bt, br_false] at h
  have refsOK : b2 = true → ∀ u ∈ S, rightD u.1 = true ∧ 0 ≤ u.2 ∧ u.2 < 16 := by
    intro hb; subst hb
    rw [op_Refs.f_eq] at r1
    have := refs_ok k S (by omega) (by omega) k 0 (by omega) (by omega) r1
    rwa [List.drop_zero] at this
  have seenOK : b2 = true → ilt 256 (ilen S) = false → S.length ≤ 256 ∧ ∀ u ∈ S, rightD u.1 = true ∧ 0 ≤ u.2 ∧ u.2 < 16 := by
    intro hb hl
    rw [show ilt 256 (ilen S) = decide (256 < S.length) from ilt_lenR 256 S] at hl
    have := of_decide_eq_false hl
    exact ⟨by omega, refsOK hb⟩
  have aOK : ieq A 0 = true → A = 0 := fun h => by rw [ieq_dec] at h; exact of_decide_eq_true h
  have vOK : deq tValue V (0, (0, [])) = true → V = (0, (0, [])) := fun h => by rw [deqVal] at h; exact of_decide_eq_true h
  clear p2 v2 r2 so hsl r1
  have hK : K = 1 ∨ K = 2 ∨ K = 3 ∨ K = 4 ∨ K = 5 := by omega
  rcases hK with rfl | rfl | rfl | rfl | rfl
  · simp only [show ieq (1 : Int) 1 = true from rfl, show ieq (1 : Int) 2 = false from rfl, show ieq (1 : Int) 3 = false from rfl, show ieq (1 : Int) 4 = false from rfl, show ieq (1 : Int) 5 = false from rfl, br_true, br_false, bt, bf, bnd_some] at h
    cases b1 with
    | false => exact absurd h (by intro h; cases h)
    | true =>
    generalize hA : ieq A 0 = qa at h
    cases qa with
    | false => exact absurd h (by intro h; cases h)
    | true =>
    generalize hS : ilt 256 (ilen S) = qs at h
    cases qs with
    | true => exact absurd h (by intro h; cases h)
    | false =>
    cases b2 with
    | false => exact absurd h (by intro h; cases h)
    | true =>
    have a0 := aOK hA
    exact ⟨.inl rfl, hsave, p1, fun h => (by rcases h with h | h <;> cases h), fun _ => v1, fun _ => a0, by show -2147483647 ≤ A ∧ A ≤ 2147483647; omega, fun h => (by rcases h with h | h <;> cases h), seenOK rfl hS⟩
  · simp only [show ieq (2 : Int) 1 = false from rfl, show ieq (2 : Int) 2 = true from rfl, show ieq (2 : Int) 3 = false from rfl, show ieq (2 : Int) 4 = false from rfl, show ieq (2 : Int) 5 = false from rfl, br_true, br_false, bt, bf, bnd_some] at h
    cases b1 with
    | false => exact absurd h (by intro h; cases h)
    | true =>
    generalize hA : ieq A 0 = qa at h
    cases qa with
    | false => exact absurd h (by intro h; cases h)
    | true =>
    generalize hS : ilt 0 (ilen S) = qs at h
    cases qs with
    | true => exact absurd h (by intro h; cases h)
    | false =>
    have a0 := aOK hA
    have s0 := nil_of hS
    exact ⟨.inr (.inl rfl), hsave, p1, fun h => (by rcases h with h | h <;> cases h), fun _ => v1, fun _ => a0, by show -2147483647 ≤ A ∧ A ≤ 2147483647; omega, fun _ => s0, by show S.length ≤ 256 ∧ _; rw [s0]; exact ⟨by simp, fun u hu => by simp at hu⟩⟩
  · simp only [show ieq (3 : Int) 1 = false from rfl, show ieq (3 : Int) 2 = false from rfl, show ieq (3 : Int) 3 = true from rfl, show ieq (3 : Int) 4 = false from rfl, show ieq (3 : Int) 5 = false from rfl, br_true, br_false, bt, bf, bnd_some] at h
    generalize hV : deq tValue V (0, (0, [])) = qv at h
    cases qv with
    | false => exact absurd h (by intro h; cases h)
    | true =>
    generalize hA : ieq A 0 = qa at h
    cases qa with
    | true => exact absurd h (by intro h; cases h)
    | false =>
    generalize hA1 : ile (-2147483647) A = q1 at h
    cases q1 with
    | false => exact absurd h (by intro h; cases h)
    | true =>
    generalize hA2 : ile A 2147483647 = q2 at h
    cases q2 with
    | false => exact absurd h (by intro h; cases h)
    | true =>
    generalize hS : ilt 0 (ilen S) = qs at h
    cases qs with
    | true => exact absurd h (by intro h; cases h)
    | false =>
    have v0 := vOK hV
    have s0 := nil_of hS
    have a1 : -2147483647 ≤ A := of_decide_eq_true hA1
    have a2 : A ≤ 2147483647 := of_decide_eq_true hA2
    exact ⟨.inr (.inr (.inl rfl)), hsave, p1, fun _ => v0, fun h => (by rcases h with h | h | h <;> cases h), fun h => absurd rfl h, ⟨a1, a2⟩, fun _ => s0, by show S.length ≤ 256 ∧ _; rw [s0]; exact ⟨by simp, fun u hu => by simp at hu⟩⟩
  · simp only [show ieq (4 : Int) 1 = false from rfl, show ieq (4 : Int) 2 = false from rfl, show ieq (4 : Int) 3 = false from rfl, show ieq (4 : Int) 4 = true from rfl, show ieq (4 : Int) 5 = false from rfl, br_true, br_false, bt, bf, bnd_some] at h
    cases b1 with
    | false => exact absurd h (by intro h; cases h)
    | true =>
    generalize hA : ieq A 0 = qa at h
    cases qa with
    | false => exact absurd h (by intro h; cases h)
    | true =>
    generalize hS : ilt 256 (ilen S) = qs at h
    cases qs with
    | true => exact absurd h (by intro h; cases h)
    | false =>
    cases b2 with
    | false => exact absurd h (by intro h; cases h)
    | true =>
    have a0 := aOK hA
    exact ⟨.inr (.inr (.inr (.inl rfl))), hsave, p1, fun h => (by rcases h with h | h <;> cases h), fun _ => v1, fun _ => a0, by show -2147483647 ≤ A ∧ A ≤ 2147483647; omega, fun h => (by rcases h with h | h <;> cases h), seenOK rfl hS⟩
  · simp only [show ieq (5 : Int) 1 = false from rfl, show ieq (5 : Int) 2 = false from rfl, show ieq (5 : Int) 3 = false from rfl, show ieq (5 : Int) 4 = false from rfl, show ieq (5 : Int) 5 = true from rfl, br_true, br_false, bt, bf, bnd_some] at h
    generalize hV : deq tValue V (0, (0, [])) = qv at h
    cases qv with
    | false => exact absurd h (by intro h; cases h)
    | true =>
    generalize hA : ieq A 0 = qa at h
    cases qa with
    | false => exact absurd h (by intro h; cases h)
    | true =>
    generalize hS : ilt 256 (ilen S) = qs at h
    cases qs with
    | true => exact absurd h (by intro h; cases h)
    | false =>
    cases b2 with
    | false => exact absurd h (by intro h; cases h)
    | true =>
    have a0 := aOK hA
    have v0 := vOK hV
    exact ⟨.inr (.inr (.inr (.inr rfl))), hsave, p1, fun _ => v0, fun h => (by rcases h with h | h | h <;> cases h), fun _ => a0, by show -2147483647 ≤ A ∧ A ≤ 2147483647; omega, fun h => (by rcases h with h | h <;> cases h), seenOK rfl hS⟩
def goneO : Op := (0, ([], ((0, (0, [])), (0, []))))
theorem gone_val {k : Nat} {o : Op} (h : op_Gone.f k o = some true) : o = goneO := by
  rw [op_Gone.f_eq, ieq_dec, ieq0, deqVal, ieq_dec, ieq0] at h
  obtain ⟨K, P, V, A, S⟩ := o
  simp only at h
  by_cases h1 : K = 0
  case neg => rw [decide_eq_false h1, br_false] at h; cases h
  rw [decide_eq_true h1, br_true] at h
  by_cases h2 : P.length = 0
  case neg => rw [decide_eq_false h2, br_false] at h; cases h
  rw [decide_eq_true h2, br_true] at h
  by_cases h3 : V = (0, (0, []))
  case neg => rw [decide_eq_false h3, br_false] at h; cases h
  rw [decide_eq_true h3, br_true] at h
  by_cases h4 : A = 0
  case neg => rw [decide_eq_false h4, br_false] at h; cases h
  rw [decide_eq_true h4, br_true] at h
  injection h with h
  have h5 := of_decide_eq_true h
  rw [h1, List.eq_nil_of_length_eq_zero h2, h3, h4, List.eq_nil_of_length_eq_zero h5]; rfl
def codeTl (o : Op) : List UInt8 :=
  if o.1 = 3 then packB (foldN o.2.2.2.1) else if o.1 = 2 then codeVal o.2.2.1 else if o.1 = 5 then codeT o.2.2.2.2 else codeVal o.2.2.1 ++ codeT o.2.2.2.2
def codeO (o : Op) : List UInt8 := if o.1 = 0 then packB 0 else packB o.1.toNat ++ (codeP o.2.1 ++ codeTl o)
theorem codeR_le {u : Undo} (h : rightD u.1 = true ∧ 0 ≤ u.2 ∧ u.2 < 16) : (codeU u).length ≤ 24 := by
  have := codeD_le h.1
  have := packB_le (n := u.2.toNat) (by omega)
  unfold codeU; rw [List.length_append]; omega
theorem codeRs_le {l : List Undo} (h : ∀ u ∈ l, rightD u.1 = true ∧ 0 ≤ u.2 ∧ u.2 < 16) (hl : l.length ≤ 256) : (codeT l).length ≤ 6152 := by
  have hp := packB_le (n := l.length) (by omega)
  have := codes_le codeU 24 l (fun d hd => codeR_le (h d hd))
  unfold codeT; rw [List.length_append]; omega
theorem codeTl_le {k : Nat} {o : Op} (h : OkO k o) (hs : ShortO o) : (codeTl o).length ≤ 6400 := by
  obtain ⟨a, b⟩ := h.amt3
  have h1 := packB_le (foldN_le a b)
  have h2 := codeRs_le h.seen.2 h.seen.1
  have hv := hs.val
  unfold codeTl
  by_cases c3 : o.1 = 3
  · rw [if_pos c3]; omega
  rw [if_neg c3]
  by_cases c2 : o.1 = 2
  · have := codeVal_le (val_ok k _ (h.valr (.inr (.inl c2)))) hv
    rw [if_pos c2]; omega
  rw [if_neg c2]
  by_cases c5 : o.1 = 5
  · rw [if_pos c5]; omega
  rw [if_neg c5, List.length_append]
  have := codeVal_le (val_ok k _ (h.valr (by have := h.kind; omega))) hv
  omega
theorem codeO_le {k : Nat} {o : Op} (h : o = goneO ∨ OkO k o) (hs : ShortO o) : (codeO o).length ≤ 8000 := by
  unfold codeO
  rcases h with rfl | h
  · rw [if_pos (by rfl)]; have := packB_le (n := 0) (by omega); omega
  · have h1 := codeTl_le h hs
    have h2 := codeP_le hs.path
    have h3 := packB_le (n := o.1.toNat) (by have := h.kind; omega)
    rw [if_neg (by have := h.kind; omega), List.length_append, List.length_append]; omega
theorem codeO_pos (o : Op) : 0 < (codeO o).length := by
  unfold codeO
  split
  · exact packB_pos 0
  · rw [List.length_append]; have := packB_pos o.1.toNat; omega
theorem rcode_l (k : Nat) (l : List Undo) (hr : ∀ u ∈ l, rightD u.1 = true ∧ 0 ≤ u.2 ∧ u.2 < 16) (hl : l.length < 1000000) : ∀ (n i : Nat) (x : List UInt8), i ≤ l.length → l.length < n + i → x.length ≤ 10000 + 24 * i → op_Code.l16 k n x l (ilen l) (i : Int) = some (x ++ (l.drop i).flatMap codeU)
  | 0, i, _, h, h', _ => by omega
  | n + 1, i, x, h, h', hx => by
    rw [op_Code.l16_eq, ilt_nat, inL_nat, natOf_nat]
    by_cases hi : i < l.length
    · have hd := hr l[i] (List.getElem_mem hi)
      have hp := codeR_le hd
      obtain ⟨hd1, hd2, hd3⟩ := hd
      have hp1 := codeD_le hd1
      have hp2 := packB_le (n := l[i].2.toNat) (by omega)
      have e4 : iadd .i64 (i : Int) 1 = ((i + 1 : Nat) : Int) := iadd_nat (by omega)
      have ed : l.drop i = l[i] :: l.drop (i + 1) := List.drop_eq_getElem_cons hi
      rw [decide_eq_true hi, rd_at' (e := tUndo) hi, dcode_is k hd1, packI_is (n := l[i].2) (by omega), e4, ed, List.flatMap_cons]
      simp only [br_true, bnd_some]
      rw [roomS_ok (by omega) (by omega), br_true]
      have ea : app (codeD l[i].1) (packB l[i].2.toNat) = codeU l[i] := rfl
      rw [ea, roomS_ok (by omega) (by omega), br_true]
      refine (rcode_l k l hr hl n (i + 1) _ (by omega) (by omega) (by unfold app; rw [List.length_append]; omega)).trans ?_
      unfold app; rw [List.append_assoc]
    · have e0 : l.drop i = [] := List.drop_eq_nil_of_le (by omega)
      rw [decide_eq_false hi, br_false, e0]; simp
theorem rcode_is (k : Nat) (x : List UInt8) {l : List Undo} (hr : ∀ u ∈ l, rightD u.1 = true ∧ 0 ≤ u.2 ∧ u.2 < 16) (hl : l.length ≤ 256) (hx : x.length ≤ 9000) (hk : 5000 < k) (hk2 : k < 1000000) :
    (bnd (packI (ilen l)) fun r6 => br (roomS x r6) (op_Code.l16 k k (app x r6) l (ilen l) 0) none) = some (x ++ codeT l) := by
  have e : (ilen l).toNat = l.length := rfl
  have hp := packB_le (n := l.length) (by omega)
  rw [packI_is (n := ilen l) (by unfold ilen; omega), e, bnd_some, roomS_ok (by omega) (by omega), br_true]
  refine (rcode_l k l hr (by omega) k 0 _ (by omega) (by omega) (by unfold app; rw [List.length_append]; omega)).trans ?_
  rw [List.drop_zero]; unfold app codeT; rw [List.append_assoc]
end Go.Proofs.YtbiihldcljemfaaGreatDoor
end
section
/- What is told of operations is read again: kind by kind. -/
set_option linter.unusedVariables false
set_option linter.unusedSimpArgs false
namespace Go.Proofs.YtbiihldcljemfaaGreatDoor
open Pal
theorem pI (n : Nat) (h : n < 100) : packI (n : Int) = some (packB n) := by rw [packI_is (n := (n : Int)) (by omega), Int.toNat_natCast]
theorem ocode_0 (k : Nat) : op_Code.f k goneO = some (packB 0) := by
  have h0 : packI 0 = some (packB 0) := pI 0 (by decide)
  have e0 : ieq (ilen ([] : List Undo)) 0 = true := rfl
  have e1 : ieq (ilen ([] : List Str)) 0 = true := rfl
  have e2 : deq tValue ((0, (0, [])) : Val) (0, (0, [])) = true := by rw [deqVal]; exact decide_eq_true rfl
  rw [op_Code.f_eq, op_Gone.f_eq]
  unfold goneO
  simp only [h0, bnd_some, show ieq (0 : Int) 0 = true from rfl, e0, e1, e2, br_true]
section
variable (k : Nat) (hk : 5000 < k) (hk2 : k < 1000000) (P : List Str) (V : Val) (A : Int) (S : List Undo) (hP : ShortP P) (hv : V.2.2.length ≤ 200)
include hk hk2 hP
theorem rooms (n : Nat) (hn : n < 100) : roomS (packB n) (codeP P) = true ∧ (app (packB n) (codeP P)).length ≤ 2000 := by
  have h1 := packB_le (n := n) (by omega)
  have h2 := codeP_le hP
  exact ⟨roomS_ok (by omega) (by omega), by unfold app; rw [List.length_append]; omega⟩
theorem ocode_3 (h1 : -2147483647 ≤ A) (h2 : A ≤ 2147483647) : op_Code.f k (3, (P, (V, (A, S)))) = some (packB 3 ++ (codeP P ++ packB (foldN A))) := by
  have h0 : packI 3 = some (packB 3) := pI 3 (by decide)
  have hb := foldN_le h1 h2
  have hpl := packB_le hb
  have hf : packI ((foldN A : Nat) : Int) = some (packB (foldN A)) := by rw [packI_is (n := ((foldN A : Nat) : Int)) (by omega), Int.toNat_natCast]
  obtain ⟨r1, r2⟩ := rooms k hk hk2 P hP 3 (by decide)
  have r3 : roomS (app (packB 3) (codeP P)) (packB (foldN A)) = true := roomS_ok (by omega) (by omega)
  rw [op_Code.f_eq, op_Gone.f_eq]
  simp only [h0, bnd_some, show ieq (3 : Int) 0 = false from rfl, show ieq (3 : Int) 3 = true from rfl, br_true, br_false, pcode_is k hP (by omega) hk2, r1, fold_is k A h1 h2, hf, r3]
  unfold app; rw [List.append_assoc]
include hv
theorem ocode_1 (hV : ValOK V) (hs : S.length ≤ 256 ∧ ∀ u ∈ S, rightD u.1 = true ∧ 0 ≤ u.2 ∧ u.2 < 16) : op_Code.f k (1, (P, (V, (A, S)))) = some (packB 1 ++ (codeP P ++ (codeVal V ++ codeT S))) := by
  have h0 : packI 1 = some (packB 1) := pI 1 (by decide)
  have hvl := codeVal_le hV hv
  obtain ⟨r1, r2⟩ := rooms k hk hk2 P hP 1 (by decide)
  have r3 : roomS (app (packB 1) (codeP P)) (codeVal V) = true := roomS_ok (by omega) (by omega)
  rw [op_Code.f_eq, op_Gone.f_eq]
  simp only [h0, bnd_some, show ieq (1 : Int) 0 = false from rfl, show ieq (1 : Int) 1 = true from rfl, show ieq (1 : Int) 2 = false from rfl, show ieq (1 : Int) 3 = false from rfl, br_true, br_false, pcode_is k hP (by omega) hk2, r1, vacode_is k hV hv, r3]
  refine (rcode_is k _ hs.2 hs.1 (by unfold app at r2 ⊢; rw [List.length_append]; omega) hk hk2).trans ?_
  unfold app; simp only [List.append_assoc]
theorem ocode_4 (hV : ValOK V) (hs : S.length ≤ 256 ∧ ∀ u ∈ S, rightD u.1 = true ∧ 0 ≤ u.2 ∧ u.2 < 16) : op_Code.f k (4, (P, (V, (A, S)))) = some (packB 4 ++ (codeP P ++ (codeVal V ++ codeT S))) := by
  have h0 : packI 4 = some (packB 4) := pI 4 (by decide)
  have hvl := codeVal_le hV hv
  obtain ⟨r1, r2⟩ := rooms k hk hk2 P hP 4 (by decide)
  have r3 : roomS (app (packB 4) (codeP P)) (codeVal V) = true := roomS_ok (by omega) (by omega)
  rw [op_Code.f_eq, op_Gone.f_eq]
  simp only [h0, bnd_some, show ieq (4 : Int) 0 = false from rfl, show ieq (4 : Int) 1 = false from rfl, show ieq (4 : Int) 2 = false from rfl, show ieq (4 : Int) 3 = false from rfl, show ieq (4 : Int) 4 = true from rfl, br_true, br_false, pcode_is k hP (by omega) hk2, r1, vacode_is k hV hv, r3]
  refine (rcode_is k _ hs.2 hs.1 (by unfold app at r2 ⊢; rw [List.length_append]; omega) hk hk2).trans ?_
  unfold app; simp only [List.append_assoc]
theorem ocode_2 (hV : ValOK V) : op_Code.f k (2, (P, (V, (A, S)))) = some (packB 2 ++ (codeP P ++ codeVal V)) := by
  have h0 : packI 2 = some (packB 2) := pI 2 (by decide)
  have hvl := codeVal_le hV hv
  obtain ⟨r1, r2⟩ := rooms k hk hk2 P hP 2 (by decide)
  have r3 : roomS (app (packB 2) (codeP P)) (codeVal V) = true := roomS_ok (by omega) (by omega)
  rw [op_Code.f_eq, op_Gone.f_eq]
  simp only [h0, bnd_some, show ieq (2 : Int) 0 = false from rfl, show ieq (2 : Int) 1 = false from rfl, show ieq (2 : Int) 2 = true from rfl, show ieq (2 : Int) 3 = false from rfl, br_true, br_false, pcode_is k hP (by omega) hk2, r1, vacode_is k hV hv, r3]
  unfold app; rw [List.append_assoc]
omit hv in
theorem ocode_5 (hs : S.length ≤ 256 ∧ ∀ u ∈ S, rightD u.1 = true ∧ 0 ≤ u.2 ∧ u.2 < 16) : op_Code.f k (5, (P, (V, (A, S)))) = some (packB 5 ++ (codeP P ++ codeT S)) := by
  have h0 : packI 5 = some (packB 5) := pI 5 (by decide)
  obtain ⟨r1, r2⟩ := rooms k hk hk2 P hP 5 (by decide)
  rw [op_Code.f_eq, op_Gone.f_eq]
  simp only [h0, bnd_some, show ieq (5 : Int) 0 = false from rfl, show ieq (5 : Int) 1 = false from rfl, show ieq (5 : Int) 2 = false from rfl, show ieq (5 : Int) 3 = false from rfl, show ieq (5 : Int) 4 = false from rfl, br_true, br_false, pcode_is k hP (by omega) hk2, r1]
  refine (rcode_is k _ hs.2 hs.1 (by omega) hk hk2).trans ?_
  unfold app; simp only [List.append_assoc]
end
theorem ocode_is (k : Nat) {o : Op} (h : o = goneO ∨ OkO k o) (hs : ShortO o) (hk : 5000 < k) (hk2 : k < 1000000) : op_Code.f k o = some (codeO o) := by
  rcases h with rfl | h
  · rw [ocode_0]; rfl
  · have hK := h.kind
    have hvr := h.valr; have hse := h.seen; have hv := hs.val; have hP := hs.path; have ha := h.amt3
    clear h hs
    obtain ⟨K, P, V, A, S⟩ := o
    simp only at hK hvr hse hv hP ha
    rcases hK with rfl | rfl | rfl | rfl | rfl
    · exact ocode_1 k hk hk2 P V A S hP hv (val_ok k V (hvr (.inl rfl))) hse
    · exact ocode_2 k hk hk2 P V A S hP hv (val_ok k V (hvr (.inr (.inl rfl))))
    · exact ocode_3 k hk hk2 P V A S hP ha.1 ha.2
    · exact ocode_4 k hk hk2 P V A S hP hv (val_ok k V (hvr (.inr (.inr rfl)))) hse
    · exact ocode_5 k hk hk2 P V A S hP hse
theorem back_s3 (k : Nat) (h12 : 12 < k) (N : Nat) (hN : N < 1000000) (t : List UInt8) : ∀ (n i : Nat) (x l : List Undo), i + l.length = N → N < n + i → x.length = i → (∀ u ∈ l, rightD u.1 = true ∧ 0 ≤ u.2 ∧ u.2 < 16) → (l.flatMap codeU ++ t).length < 4000000 →
    op_seen.l3 k n x (N : Int) (i : Int) (l.flatMap codeU ++ t, 0) = some (x ++ l, (t, 0))
  | 0, i, _, _, h, h', _, _, _ => by omega
  | n + 1, i, x, [], h, _, hx, _, _ => by
    have hi : N = i := by simpa using h.symm
    subst hi
    rw [op_seen.l3_eq, ilt_nn, decide_eq_false (Nat.lt_irrefl _)]
    simp only [br_false, List.append_nil, List.flatMap_nil, List.nil_append]
  | n + 1, i, x, d :: l, h, h', hx, hr, hS => by
    simp only [List.length_cons] at h
    obtain ⟨hd1, hd2, hd3⟩ := hr d (by simp)
    have e4 : iadd .i64 (i : Int) 1 = ((i + 1 : Nat) : Int) := iadd_nat (by omega)
    have ea : (d :: l).flatMap codeU ++ t = codeD d.1 ++ (packB d.2.toNat ++ (l.flatMap codeU ++ t)) := by rw [List.flatMap_cons, codeU, List.append_assoc, List.append_assoc]
    rw [ea] at hS ⊢
    have hS2 : (packB d.2.toNat ++ (l.flatMap codeU ++ t)).length < 4000000 := by rw [List.length_append] at hS; omega
    have hS3 : (l.flatMap codeU ++ t).length < 4000000 := by rw [List.length_append] at hS2; omega
    rw [op_seen.l3_eq, ilt_nn, decide_eq_true (show i < N by omega), back_dot k d.1 _ hd1 h12 hS, e4]
    simp only [br_true, bnd_some]
    rw [back_int k d.2.toNat _ h12 (by omega) hS2]
    simp only [bnd_some]
    rw [room1 (show x.length < 4000000 by omega), br_true, Int.toNat_of_nonneg (by omega)]
    have := back_s3 k h12 N hN t n (i + 1) (app x (d :: [])) l (by omega) (by omega) (by simp [app, hx]) (fun e he => hr e (List.mem_cons_of_mem _ he)) hS3
    refine this.trans ?_
    simp [app]
theorem back_seen (k : Nat) (l : List Undo) (t : List UInt8) (hr : l.length ≤ 256 ∧ ∀ u ∈ l, rightD u.1 = true ∧ 0 ≤ u.2 ∧ u.2 < 16) (hk : 5000 < k) (hk2 : k < 1000000) (hS : (codeT l ++ t).length < 4000000) :
    op_seen.f k (codeT l ++ t, 0) = some (l, (t, 0)) := by
  have hr1 := hr.1
  have ea : codeT l ++ t = packB l.length ++ (l.flatMap codeU ++ t) := by unfold codeT; rw [List.append_assoc]
  rw [ea] at hS ⊢
  have hS2 : (l.flatMap codeU ++ t).length < 4000000 := by rw [List.length_append] at hS; omega
  have hlen := codes_len codeU codeU_pos l
  rw [op_seen.f_eq, back_many k _ 256 _ (by omega) (by omega) (by omega) (by rw [List.length_append]; omega) hS]
  simp only [bnd_some]
  exact back_s3 k (by omega) l.length (by omega) t k 0 [] l (by omega) (by omega) rfl hr.2 hS2
theorem oback_0 (k : Nat) (t : List UInt8) (hk : 12 < k) (hS : (packB 0 ++ t).length < 4000000) : op_Read.f k (packB 0 ++ t, 0) = some (goneO, (t, 0)) := by
  have hb : pack_Reader_Int.f k (packB 0 ++ t, 0) = some (0, (t, 0)) := back_int k 0 _ hk (by decide) hS
  rw [op_Read.f_eq, hb, bnd_some, show ieq (0 : Int) 0 = true from rfl, br_true]; rfl
section
variable (k : Nat) (P : List Str) (V : Val) (S : List Undo) (t X1 X2 : List UInt8)
theorem oback_1 (hb : pack_Reader_Int.f k (X1, 0) = some (1, (X2, 0))) (X3 X4 : List UInt8) (hp : path_Read.f k (X2, 0) = some (P, (X3, 0))) (hv : value_Read.f k (X3, 0) = some (V, (X4, 0))) (hs : op_seen.f k (X4, 0) = some (S, (t, 0))) (hc : op_Check.f k (1, (P, (V, (0, S)))) = some 0) :
    op_Read.f k (X1, 0) = some ((1, (P, (V, (0, S)))), (t, 0)) := by
  have bt : bnot true = false := rfl
  rw [op_Read.f_eq, hb, bnd_some, show ieq (1 : Int) 0 = false from rfl, br_false, hp, bnd_some, show ieq (1 : Int) 3 = false from rfl, br_false, show ieq (1 : Int) 1 = true from rfl, br_true, br_true, hv, bnd_some, hs, bnd_some]
  simp only [fault_is, bnd_some, show ieq (0 : Int) 0 = true from rfl, br_true, hc, fail_is, if_true, bt, br_false]
theorem oback_4 (hb : pack_Reader_Int.f k (X1, 0) = some (4, (X2, 0))) (X3 X4 : List UInt8) (hp : path_Read.f k (X2, 0) = some (P, (X3, 0))) (hv : value_Read.f k (X3, 0) = some (V, (X4, 0))) (hs : op_seen.f k (X4, 0) = some (S, (t, 0))) (hc : op_Check.f k (4, (P, (V, (0, S)))) = some 0) :
    op_Read.f k (X1, 0) = some ((4, (P, (V, (0, S)))), (t, 0)) := by
  have bt : bnot true = false := rfl
  rw [op_Read.f_eq, hb, bnd_some, show ieq (4 : Int) 0 = false from rfl, br_false, hp, bnd_some, show ieq (4 : Int) 3 = false from rfl, br_false, show ieq (4 : Int) 1 = false from rfl, br_false, show ieq (4 : Int) 4 = true from rfl, br_true, hv, bnd_some, hs, bnd_some]
  simp only [fault_is, bnd_some, show ieq (0 : Int) 0 = true from rfl, br_true, hc, fail_is, if_true, bt, br_false]
theorem oback_2 (hb : pack_Reader_Int.f k (X1, 0) = some (2, (X2, 0))) (X3 : List UInt8) (hp : path_Read.f k (X2, 0) = some (P, (X3, 0))) (hv : value_Read.f k (X3, 0) = some (V, (t, 0))) (hc : op_Check.f k (2, (P, (V, (0, [])))) = some 0) :
    op_Read.f k (X1, 0) = some ((2, (P, (V, (0, [])))), (t, 0)) := by
  have bt : bnot true = false := rfl
  rw [op_Read.f_eq, hb, bnd_some, show ieq (2 : Int) 0 = false from rfl, br_false, hp, bnd_some, show ieq (2 : Int) 3 = false from rfl, br_false, show ieq (2 : Int) 1 = false from rfl, br_false, show ieq (2 : Int) 4 = false from rfl, br_false, show ieq (2 : Int) 2 = true from rfl, br_true, hv, bnd_some]
  simp only [fault_is, bnd_some, show ieq (0 : Int) 0 = true from rfl, br_true, hc, fail_is, if_true, bt, br_false]
theorem oback_3 (A m : Int) (hb : pack_Reader_Int.f k (X1, 0) = some (3, (X2, 0))) (X3 : List UInt8) (hp : path_Read.f k (X2, 0) = some (P, (X3, 0))) (hv : pack_Reader_Int.f k (X3, 0) = some (m, (t, 0))) (hu : value_Unfold.f k m = some A) (hc : op_Check.f k (3, (P, ((0, (0, [])), (A, [])))) = some 0) :
    op_Read.f k (X1, 0) = some ((3, (P, ((0, (0, [])), (A, [])))), (t, 0)) := by
  have bt : bnot true = false := rfl
  rw [op_Read.f_eq, hb, bnd_some, show ieq (3 : Int) 0 = false from rfl, br_false, hp, bnd_some, show ieq (3 : Int) 3 = true from rfl, br_true, hv, bnd_some, hu, bnd_some]
  simp only [fault_is, bnd_some, show ieq (0 : Int) 0 = true from rfl, br_true, hc, fail_is, if_true, bt, br_false]
theorem oback_5 (hb : pack_Reader_Int.f k (X1, 0) = some (5, (X2, 0))) (X3 : List UInt8) (hp : path_Read.f k (X2, 0) = some (P, (X3, 0))) (hs : op_seen.f k (X3, 0) = some (S, (t, 0))) (hc : op_Check.f k (5, (P, ((0, (0, [])), (0, S)))) = some 0) :
    op_Read.f k (X1, 0) = some ((5, (P, ((0, (0, [])), (0, S)))), (t, 0)) := by
  have bt : bnot true = false := rfl
  rw [op_Read.f_eq, hb, bnd_some, show ieq (5 : Int) 0 = false from rfl, br_false, hp, bnd_some, show ieq (5 : Int) 3 = false from rfl, br_false, show ieq (5 : Int) 1 = false from rfl, br_false, show ieq (5 : Int) 4 = false from rfl, br_false, show ieq (5 : Int) 2 = false from rfl, br_false, show ieq (5 : Int) 5 = true from rfl, br_true, hs, bnd_some]
  simp only [fault_is, bnd_some, show ieq (0 : Int) 0 = true from rfl, br_true, hc, fail_is, if_true, bt, br_false]
end
theorem back_op (k : Nat) {o : Op} (t : List UInt8) (h : o = goneO ∨ OkO k o) (hk : 5000 < k) (hk2 : k < 1000000) (hS : (codeO o ++ t).length < 4000000) : op_Read.f k (codeO o ++ t, 0) = some (o, (t, 0)) := by
  rcases h with rfl | h
  · exact oback_0 k t (by omega) hS
  · have hK := h.kind; have hvr := h.valr; have hv0 := h.val0; have hse := h.seen; have hp := h.path; have ha := h.amt3; have ha0 := h.amt0; have hs0 := h.seen0; have hc := h.chk
    clear h
    obtain ⟨K, P, V, A, S⟩ := o
    simp only at hK hvr hv0 hse hp ha ha0 hs0 hc
    have pl := path_len k P hp
    have i (n : Nat) (X : List UInt8) (hn : n < 100) (hS : (packB n ++ X).length < 4000000) := back_int k n X (by omega) (by omega) hS
    rcases hK with rfl | rfl | rfl | rfl | rfl
    · have ea : codeO (1, (P, (V, (A, S)))) ++ t = packB 1 ++ (codeP P ++ (codeVal V ++ (codeT S ++ t))) := by
        show (packB 1 ++ (codeP P ++ (codeVal V ++ codeT S))) ++ t = _
        simp only [List.append_assoc]
      have hA : A = 0 := ha0 (by decide)
      subst hA
      rw [ea] at hS ⊢
      have s2 : (codeP P ++ (codeVal V ++ (codeT S ++ t))).length < 4000000 := by rw [List.length_append] at hS; omega
      have s3 : (codeVal V ++ (codeT S ++ t)).length < 4000000 := by rw [List.length_append] at s2; omega
      have s4 : (codeT S ++ t).length < 4000000 := by rw [List.length_append] at s3; omega
      exact oback_1 k P V S t _ _ (i 1 _ (by decide) hS) _ _ (back_path k P _ hp pl (by omega) hk2 s2) (back_val k _ (hvr (.inl rfl)) (by omega) s3) (back_seen k S t hse hk hk2 s4) hc
    · have hA : A = 0 := ha0 (by decide)
      have hS0 : S = [] := hs0 (.inl rfl)
      subst hA; subst hS0
      have ea : codeO (2, (P, (V, (0, [])))) ++ t = packB 2 ++ (codeP P ++ (codeVal V ++ t)) := by
        show (packB 2 ++ (codeP P ++ codeVal V)) ++ t = _
        simp only [List.append_assoc]
      rw [ea] at hS ⊢
      have s2 : (codeP P ++ (codeVal V ++ t)).length < 4000000 := by rw [List.length_append] at hS; omega
      have s3 : (codeVal V ++ t).length < 4000000 := by rw [List.length_append] at s2; omega
      exact oback_2 k P V t _ _ (i 2 _ (by decide) hS) _ (back_path k P _ hp pl (by omega) hk2 s2) (back_val k _ (hvr (.inr (.inl rfl))) (by omega) s3) hc
    · have hV : V = (0, (0, [])) := hv0 (.inl rfl)
      have hS0 : S = [] := hs0 (.inr rfl)
      subst hV; subst hS0
      have ea : codeO (3, (P, ((0, (0, [])), (A, [])))) ++ t = packB 3 ++ (codeP P ++ (packB (foldN A) ++ t)) := by
        show (packB 3 ++ (codeP P ++ packB (foldN A))) ++ t = _
        simp only [List.append_assoc]
      rw [ea] at hS ⊢
      have s2 : (codeP P ++ (packB (foldN A) ++ t)).length < 4000000 := by rw [List.length_append] at hS; omega
      have s3 : (packB (foldN A) ++ t).length < 4000000 := by rw [List.length_append] at s2; omega
      have hb := foldN_le ha.1 ha.2
      obtain ⟨u1, _⟩ := unfold_is k (foldN A) hb
      rw [unf_fold _ ha.1 ha.2] at u1
      exact oback_3 k P t _ _ A _ (i 3 _ (by decide) hS) _ (back_path k P _ hp pl (by omega) hk2 s2) (back_int k _ _ (by omega) hb s3) u1 hc
    · have ea : codeO (4, (P, (V, (A, S)))) ++ t = packB 4 ++ (codeP P ++ (codeVal V ++ (codeT S ++ t))) := by
        show (packB 4 ++ (codeP P ++ (codeVal V ++ codeT S))) ++ t = _
        simp only [List.append_assoc]
      have hA : A = 0 := ha0 (by decide)
      subst hA
      rw [ea] at hS ⊢
      have s2 : (codeP P ++ (codeVal V ++ (codeT S ++ t))).length < 4000000 := by rw [List.length_append] at hS; omega
      have s3 : (codeVal V ++ (codeT S ++ t)).length < 4000000 := by rw [List.length_append] at s2; omega
      have s4 : (codeT S ++ t).length < 4000000 := by rw [List.length_append] at s3; omega
      exact oback_4 k P V S t _ _ (i 4 _ (by decide) hS) _ _ (back_path k P _ hp pl (by omega) hk2 s2) (back_val k _ (hvr (.inr (.inr rfl))) (by omega) s3) (back_seen k S t hse hk hk2 s4) hc
    · have ea : codeO (5, (P, (V, (A, S)))) ++ t = packB 5 ++ (codeP P ++ (codeT S ++ t)) := by
        show (packB 5 ++ (codeP P ++ codeT S)) ++ t = _
        simp only [List.append_assoc]
      have hA : A = 0 := ha0 (by decide)
      have hV : V = (0, (0, [])) := hv0 (.inr rfl)
      subst hA; subst hV
      rw [ea] at hS ⊢
      have s2 : (codeP P ++ (codeT S ++ t)).length < 4000000 := by rw [List.length_append] at hS; omega
      have s4 : (codeT S ++ t).length < 4000000 := by rw [List.length_append] at s2; omega
      exact oback_5 k P S t _ _ (i 5 _ (by decide) hS) _ (back_path k P _ hp pl (by omega) hk2 s2) (back_seen k S t hse hk hk2 s4) hc
end Go.Proofs.YtbiihldcljemfaaGreatDoor
end
section
/- What is told of transactions and lists of them is read again. -/
set_option linter.unusedVariables false
set_option linter.unusedSimpArgs false
namespace Go.Proofs.YtbiihldcljemfaaGreatDoor
open Pal
theorem ShortO.siz {o : Op} (h : ShortO o) {k : Nat} (hk : 1000 < k) : SizO k o := by
  have h1 := h.path.1; have h3 := h.val; have h4 := h.seen
  exact ⟨fun s hs => by have := h.path.2 s hs; omega, by omega, by omega, by omega⟩
theorem ShortT.siz {t : Txn} (h : ShortT t) {k : Nat} (hk : 1000 < k) : SizT k t := ⟨by have := h.len; omega, fun o ho => (h.ops o ho).siz hk⟩
theorem txnck_l (k : Nat) (t : Txn) (ho : ∀ o ∈ t.2.2.2.2, SizO k o) (hl : t.2.2.2.2.length < 1000000) (hk : 10 < k) (hk2 : k < 1000000) : ∀ (n i : Nat), i ≤ t.2.2.2.2.length → t.2.2.2.2.length < n + i →
    txn_Check.l10 k n t.2.2.2.2 (ilen t.2.2.2.2) (i : Int) t = some 0 → ∀ o ∈ t.2.2.2.2.drop i, o = goneO ∨ OkO k o
  | 0, i, _, h, _ => by omega
  | n + 1, i, h, h', hc => by
    rw [txn_Check.l10_eq, ilt_nat, inL_nat, natOf_nat] at hc
    by_cases hi : i < t.2.2.2.2.length
    · have so := ho _ (List.getElem_mem hi)
      obtain ⟨e, p1, p2⟩ := op_is k t.2.2.2.2[i] so.path so.names so.val so.seen hk hk2
      obtain ⟨g, q1, q2⟩ := gone_tot k t.2.2.2.2[i]
      rw [decide_eq_true hi, rd_at' (e := tOp) hi, p1, q1, iadd_nat (by omega)] at hc
      simp only [br_true, bnd_some] at hc
      have bt : bnot true = false := rfl
      have bf : bnot false = true := rfl
      have key : (t.2.2.2.2[i] = goneO ∨ OkO k t.2.2.2.2[i]) ∧ txn_Check.l10 k n t.2.2.2.2 (ilen t.2.2.2.2) ((i + 1 : Nat) : Int) t = some 0 := by
        have chk : br (bnot (ieq e 0)) (some e) (txn_Check.l10 k n t.2.2.2.2 (ilen t.2.2.2.2) ((i + 1 : Nat) : Int) t) = some 0 → (t.2.2.2.2[i] = goneO ∨ OkO k t.2.2.2.2[i]) ∧ txn_Check.l10 k n t.2.2.2.2 (ilen t.2.2.2.2) ((i + 1 : Nat) : Int) t = some 0 := by
          intro hh
          rw [ieq_dec] at hh
          by_cases he : e = 0
          · rw [decide_eq_true he, bt, br_false] at hh
            exact ⟨.inr (op_ok k _ so hk hk2 (by rw [p1, he])), hh⟩
          · rw [decide_eq_false he, bf, br_true] at hh
            injection hh with hh; exact absurd hh he
        generalize hth : t.2.2.2.1 = th at hc
        cases th with
        | true =>
          rw [br_true] at hc
          cases g with
          | true => rw [br_true] at hc; exact ⟨.inl (gone_val q1), hc⟩
          | false => rw [br_false] at hc; exact chk hc
        | false => rw [br_false] at hc; exact chk hc
      intro o ho'
      rw [List.drop_eq_getElem_cons hi] at ho'
      rcases List.mem_cons.1 ho' with rfl | ho'
      · exact key.1
      · exact txnck_l k t ho hl hk hk2 n (i + 1) (by omega) (by omega) key.2 o ho'
    · rw [List.drop_eq_nil_of_le (by omega)]
      intro o ho'; simp at ho'
structure OkT (k : Nat) (t : Txn) : Prop where
  chk : txn_Check.f k t = some 0
  dot : rightD t.1 = true
  user : 0 ≤ t.2.1 ∧ t.2.1 < 8
  time : 1 ≤ t.2.2.1 ∧ t.2.2.1 ≤ 1099511627776
  ops : t.2.2.2.2.length ≤ 16
  each : ∀ o ∈ t.2.2.2.2, o = goneO ∨ OkO k o
theorem txn_ok (k : Nat) (t : Txn) (st : SizT k t) (hk : 10 < k) (hk2 : k < 1000000) (h : txn_Check.f k t = some 0) : OkT k t := by
  have hsave := h
  have hl := st.ops
  have bt : bnot true = false := rfl
  have bf : bnot false = true := rfl
  rw [txn_Check.f_eq, right_is, bnd_some] at h
  cases hr : rightD t.1 with
  | false => rw [hr, bf, br_true, br_true] at h; cases h
  | true =>
  rw [hr, bt, br_false, show ilt t.2.1 0 = decide (t.2.1 < 0) from rfl, show ile 8 t.2.1 = decide (8 ≤ t.2.1) from rfl] at h
  by_cases h1 : t.2.1 < 0
  · rw [decide_eq_true h1, br_true] at h; cases h
  rw [decide_eq_false h1, br_false] at h
  by_cases h2 : 8 ≤ t.2.1
  · rw [decide_eq_true h2, br_true, br_true] at h; cases h
  rw [decide_eq_false h2, br_false, show ilt t.2.2.1 1 = decide (t.2.2.1 < 1) from rfl, show ilt 1099511627776 t.2.2.1 = decide (1099511627776 < t.2.2.1) from rfl] at h
  by_cases h3 : t.2.2.1 < 1
  · rw [decide_eq_true h3, br_true] at h; cases h
  rw [decide_eq_false h3, br_false] at h
  by_cases h4 : 1099511627776 < t.2.2.1
  · rw [decide_eq_true h4, br_true] at h; cases h
  rw [decide_eq_false h4, br_false] at h
  generalize h5 : ieq (ilen t.2.2.2.2) 0 = q5 at h
  cases q5 with
  | true => rw [br_true] at h; cases h
  | false =>
  rw [br_false, show ilt 16 (ilen t.2.2.2.2) = decide (16 < t.2.2.2.2.length) from ilt_lenR 16 _] at h
  by_cases h6 : 16 < t.2.2.2.2.length
  · rw [decide_eq_true h6, br_true] at h; cases h
  rw [decide_eq_false h6, br_false] at h
  have := txnck_l k t st.each (by omega) hk hk2 k 0 (by omega) (by omega) h
  rw [List.drop_zero] at this
  exact ⟨hsave, hr, by omega, by omega, by omega, this⟩
def thinN (b : Bool) : Nat := match b with | true => 1 | false => 0
def codeTx (t : Txn) : List UInt8 := codeD t.1 ++ (packB t.2.1.toNat ++ (packB t.2.2.1.toNat ++ (packB (thinN t.2.2.2.1) ++ (packB t.2.2.2.2.length ++ t.2.2.2.2.flatMap codeO))))
theorem codeTx_le {k : Nat} {t : Txn} (h : OkT k t) (hs : ShortT t) : (codeTx t).length ≤ 130000 := by
  have h1 := codeD_le h.dot
  have hu := h.user; have ht := h.time; have ho := h.ops
  have h2 := packB_le (n := t.2.1.toNat) (by omega)
  have h3 := packB_le (n := t.2.2.1.toNat) (by omega)
  have h4 := packB_le (n := thinN t.2.2.2.1) (by unfold thinN; split <;> omega)
  have h5 := packB_le (n := t.2.2.2.2.length) (by omega)
  have := codes_le codeO 8000 t.2.2.2.2 (fun o ho => codeO_le (h.each o ho) (hs.ops o ho))
  unfold codeTx; simp only [List.length_append]; omega
theorem codeTx_pos (t : Txn) : 0 < (codeTx t).length := by
  unfold codeTx; rw [List.length_append]; have := codeD_pos t.1; omega
theorem tocode_l (k : Nat) (l : List Op) (hr : ∀ o ∈ l, o = goneO ∨ OkO k o) (hs : ∀ o ∈ l, ShortO o) (hl : l.length < 1000) (hk : 5000 < k) (hk2 : k < 1000000) : ∀ (n i : Nat) (x : List UInt8), i ≤ l.length → l.length < n + i → x.length ≤ 100 + 8000 * i → txn_Code.l6 k n x l (ilen l) (i : Int) = some (x ++ (l.drop i).flatMap codeO)
  | 0, i, _, h, h', _ => by omega
  | n + 1, i, x, h, h', hx => by
    rw [txn_Code.l6_eq, ilt_nat, inL_nat, natOf_nat]
    by_cases hi : i < l.length
    · have hd := hr l[i] (List.getElem_mem hi)
      have hsd := hs l[i] (List.getElem_mem hi)
      have hp := codeO_le hd hsd
      have e4 : iadd .i64 (i : Int) 1 = ((i + 1 : Nat) : Int) := iadd_nat (by omega)
      have ed : l.drop i = l[i] :: l.drop (i + 1) := List.drop_eq_getElem_cons hi
      rw [decide_eq_true hi, rd_at' (e := tOp) hi, ocode_is k hd hsd hk hk2, e4, ed, List.flatMap_cons]
      simp only [br_true, bnd_some]
      rw [roomS_ok (by omega) (by omega), br_true]
      refine (tocode_l k l hr hs hl hk hk2 n (i + 1) _ (by omega) (by omega) (by unfold app; rw [List.length_append]; omega)).trans ?_
      unfold app; rw [List.append_assoc]
    · have e0 : l.drop i = [] := List.drop_eq_nil_of_le (by omega)
      rw [decide_eq_false hi, br_false, e0]; simp
theorem txcode_is (k : Nat) {t : Txn} (h : OkT k t) (hs : ShortT t) (hk : 5000 < k) (hk2 : k < 1000000) : txn_Code.f k t = some (codeTx t) := by
  have h1 := codeD_le h.dot
  have hu := h.user; have ht := h.time; have ho := h.ops
  have h2 := packB_le (n := t.2.1.toNat) (by omega)
  have h3 := packB_le (n := t.2.2.1.toNat) (by omega)
  have h4 : ∀ b, (packB (thinN b)).length ≤ 8 := fun b => packB_le (n := thinN b) (by unfold thinN; split <;> omega)
  have h5 := packB_le (n := t.2.2.2.2.length) (by omega)
  have e : (ilen t.2.2.2.2).toNat = t.2.2.2.2.length := rfl
  have q1 : packI 1 = some (packB (thinN true)) := pI 1 (by decide)
  have q0 : packI 0 = some (packB (thinN false)) := pI 0 (by decide)
  have key : ∀ b, (br (roomS (codeD t.1) (packB t.2.1.toNat))
      (br (roomS (app (codeD t.1) (packB t.2.1.toNat)) (packB t.2.2.1.toNat))
        (br (roomS (app (app (codeD t.1) (packB t.2.1.toNat)) (packB t.2.2.1.toNat)) (packB (thinN b)))
          (br (roomS (app (app (app (codeD t.1) (packB t.2.1.toNat)) (packB t.2.2.1.toNat)) (packB (thinN b))) (packB t.2.2.2.2.length))
            (txn_Code.l6 k k (app (app (app (app (codeD t.1) (packB t.2.1.toNat)) (packB t.2.2.1.toNat)) (packB (thinN b))) (packB t.2.2.2.2.length)) t.2.2.2.2 (ilen t.2.2.2.2) 0)
            none)
          none)
        none)
      none) = some (codeD t.1 ++ (packB t.2.1.toNat ++ (packB t.2.2.1.toNat ++ (packB (thinN b) ++ (packB t.2.2.2.2.length ++ t.2.2.2.2.flatMap codeO))))) := by
    intro b
    have h4 := h4 b
    rw [roomS_ok (by omega) (by omega), br_true, roomS_ok (by unfold app; simp only [List.length_append]; omega) (by omega), br_true, roomS_ok (by unfold app; simp only [List.length_append]; omega) (by omega), br_true, roomS_ok (by unfold app; simp only [List.length_append]; omega) (by omega), br_true]
    refine (tocode_l k t.2.2.2.2 h.each hs.ops (by omega) hk hk2 k 0 _ (by omega) (by omega) (by unfold app; simp only [List.length_append]; omega)).trans ?_
    rw [List.drop_zero]; unfold app; simp only [List.append_assoc]
  rw [txn_Code.f_eq, dcode_is k h.dot, packI_is (n := t.2.1) (by omega), packI_is (n := t.2.2.1) (by omega), packI_is (n := ilen t.2.2.2.2) (by unfold ilen; omega), e, q1, q0]
  unfold codeTx
  simp only [bnd_some]
  cases t.2.2.2.1 with
  | true => rw [br_true]; exact key true
  | false => rw [br_false]; exact key false
theorem back_o7 (k : Nat) (hk : 5000 < k) (hk2 : k < 1000000) (N : Nat) (hN : N ≤ 16) (d : Dot) (a b : Int) (c : Bool) (t : List UInt8) (p : List Op) (hc : txn_Check.f k (d, (a, (b, (c, p)))) = some 0) : ∀ (n i : Nat) (x l : List Op), i + l.length = N → N < n + i → x.length = i → (∀ o ∈ l, o = goneO ∨ OkO k o) → x ++ l = p → (l.flatMap codeO ++ t).length < 4000000 →
    txn_Read.l7 k n (N : Int) (i : Int) (0, 0) 0 0 false [] d a b c x (l.flatMap codeO ++ t, 0) = some ((d, (a, (b, (c, p)))), (t, 0))
  | 0, i, _, _, h, h', _, _, _, _ => by omega
  | n + 1, i, x, [], h, _, hx, _, hp, _ => by
    have hi : N = i := by simpa using h.symm
    subst hi
    rw [List.append_nil] at hp
    subst hp
    rw [txn_Read.l7_eq, ilt_nn, decide_eq_false (Nat.lt_irrefl _)]
    have bt : bnot true = false := rfl
    simp only [br_false, fault_is, bnd_some, ieq_dec, decide_true, br_true, hc, fail_is, if_true, bt, List.append_nil, List.flatMap_nil, List.nil_append]
  | n + 1, i, x, o :: l, h, h', hx, hr, hp, hS => by
    simp only [List.length_cons] at h
    have e4 : iadd .i64 (i : Int) 1 = ((i + 1 : Nat) : Int) := iadd_nat (by omega)
    have ea : (o :: l).flatMap codeO ++ t = codeO o ++ (l.flatMap codeO ++ t) := by rw [List.flatMap_cons, List.append_assoc]
    rw [ea] at hS ⊢
    have hS2 : (l.flatMap codeO ++ t).length < 4000000 := by rw [List.length_append] at hS; omega
    rw [txn_Read.l7_eq, ilt_nn, decide_eq_true (show i < N by omega), back_op k _ (hr o (by simp)) hk hk2 hS, e4]
    simp only [br_true, bnd_some]
    rw [room1 (show x.length < 4000000 by omega), br_true]
    exact back_o7 k hk hk2 N hN d a b c t p hc n (i + 1) (app x (o :: [])) l (by omega) (by omega) (by simp [app, hx]) (fun e he => hr e (List.mem_cons_of_mem _ he)) (by unfold app; rw [List.append_assoc]; exact hp) hS2
theorem back_txn (k : Nat) {t : Txn} (r : List UInt8) (h : OkT k t) (hk : 5000 < k) (hk2 : k < 1000000) (hS : (codeTx t ++ r).length < 4000000) : txn_Read.f k (codeTx t ++ r, 0) = some (t, (r, 0)) := by
  have hu := h.user; have ht := h.time; have ho := h.ops
  have hth : thinN t.2.2.2.1 ≤ 1 := by unfold thinN; split <;> omega
  have ea : codeTx t ++ r = codeD t.1 ++ (packB t.2.1.toNat ++ (packB t.2.2.1.toNat ++ (packB (thinN t.2.2.2.1) ++ (packB t.2.2.2.2.length ++ (t.2.2.2.2.flatMap codeO ++ r))))) := by unfold codeTx; simp only [List.append_assoc]
  rw [ea] at hS ⊢
  have s1 : (packB t.2.1.toNat ++ (packB t.2.2.1.toNat ++ (packB (thinN t.2.2.2.1) ++ (packB t.2.2.2.2.length ++ (t.2.2.2.2.flatMap codeO ++ r))))).length < 4000000 := by rw [List.length_append] at hS; omega
  have s2 : (packB t.2.2.1.toNat ++ (packB (thinN t.2.2.2.1) ++ (packB t.2.2.2.2.length ++ (t.2.2.2.2.flatMap codeO ++ r)))).length < 4000000 := by rw [List.length_append] at s1; omega
  have s3 : (packB (thinN t.2.2.2.1) ++ (packB t.2.2.2.2.length ++ (t.2.2.2.2.flatMap codeO ++ r))).length < 4000000 := by rw [List.length_append] at s2; omega
  have s4 : (packB t.2.2.2.2.length ++ (t.2.2.2.2.flatMap codeO ++ r)).length < 4000000 := by rw [List.length_append] at s3; omega
  have s5 : (t.2.2.2.2.flatMap codeO ++ r).length < 4000000 := by rw [List.length_append] at s4; omega
  have hlen := codes_len codeO codeO_pos t.2.2.2.2
  have e1 : ((t.2.1.toNat : Nat) : Int) = t.2.1 := Int.toNat_of_nonneg (by omega)
  have e2 : ((t.2.2.1.toNat : Nat) : Int) = t.2.2.1 := Int.toNat_of_nonneg (by omega)
  have e3 : ilt 1 ((thinN t.2.2.2.1 : Nat) : Int) = false := decide_eq_false (by omega)
  have e4 : ieq ((thinN t.2.2.2.1 : Nat) : Int) 1 = t.2.2.2.1 := by cases t.2.2.2.1 <;> rfl
  rw [txn_Read.f_eq, back_dot k t.1 _ h.dot (by omega) hS]
  simp only [bnd_some]
  rw [back_int k _ _ (by omega) (by omega) s1]
  simp only [bnd_some]
  rw [back_int k _ _ (by omega) (by omega) s2]
  simp only [bnd_some]
  rw [back_int k _ _ (by omega) (by omega) s3]
  simp only [bnd_some, fault_is]
  rw [show ieq (0 : Int) 0 = true from rfl, br_true, e3, br_false, e4, e1, e2, back_many k _ 16 _ (by omega) (by omega) (by omega) (by rw [List.length_append]; omega) s4]
  simp only [bnd_some]
  exact back_o7 k hk hk2 t.2.2.2.2.length ho t.1 t.2.1 t.2.2.1 t.2.2.2.1 r t.2.2.2.2 h.chk k 0 [] t.2.2.2.2 (by omega) (by omega) rfl h.each rfl s5
def codeTL (l : List Txn) : List UInt8 := packB l.length ++ l.flatMap codeTx
theorem codeTL_le {k : Nat} {l : List Txn} (h : ∀ t ∈ l, OkT k t) (hs : ∀ t ∈ l, ShortT t) (hl : l.length ≤ 20) : (codeTL l).length ≤ 2600008 := by
  have hp := packB_le (n := l.length) (by omega)
  have := codes_le codeTx 130000 l (fun t ht => codeTx_le (h t ht) (hs t ht))
  unfold codeTL; rw [List.length_append]; omega
theorem tlcode_l (k : Nat) (l : List Txn) (hr : ∀ t ∈ l, OkT k t) (hs : ∀ t ∈ l, ShortT t) (hl : l.length ≤ 20) (hk : 5000 < k) (hk2 : k < 1000000) : ∀ (n i : Nat) (x : List UInt8), i ≤ l.length → l.length < n + i → x.length ≤ 100 + 130000 * i → txn_List.l3 k n x l (ilen l) (i : Int) = some (x ++ (l.drop i).flatMap codeTx)
  | 0, i, _, h, h', _ => by omega
  | n + 1, i, x, h, h', hx => by
    rw [txn_List.l3_eq, ilt_nat, inL_nat, natOf_nat]
    by_cases hi : i < l.length
    · have hd := hr l[i] (List.getElem_mem hi)
      have hsd := hs l[i] (List.getElem_mem hi)
      have hp := codeTx_le hd hsd
      have e4 : iadd .i64 (i : Int) 1 = ((i + 1 : Nat) : Int) := iadd_nat (by omega)
      have ed : l.drop i = l[i] :: l.drop (i + 1) := List.drop_eq_getElem_cons hi
      rw [decide_eq_true hi, rd_at' (e := tTxn) hi, txcode_is k hd hsd hk hk2, e4, ed, List.flatMap_cons]
      simp only [br_true, bnd_some]
      rw [roomS_ok (by omega) (by omega), br_true]
      refine (tlcode_l k l hr hs hl hk hk2 n (i + 1) _ (by omega) (by omega) (by unfold app; rw [List.length_append]; omega)).trans ?_
      unfold app; rw [List.append_assoc]
    · have e0 : l.drop i = [] := List.drop_eq_nil_of_le (by omega)
      rw [decide_eq_false hi, br_false, e0]; simp
theorem tlcode_is (k : Nat) {l : List Txn} (hr : ∀ t ∈ l, OkT k t) (hs : ∀ t ∈ l, ShortT t) (hl : l.length ≤ 20) (hk : 5000 < k) (hk2 : k < 1000000) : txn_List.f k l = some (codeTL l) := by
  have e : (ilen l).toNat = l.length := rfl
  have hp := packB_le (n := l.length) (by omega)
  rw [txn_List.f_eq, packI_is (n := ilen l) (by unfold ilen; omega), e, bnd_some]
  exact tlcode_l k l hr hs hl hk hk2 k 0 _ (by omega) (by omega) (by omega)
theorem back_tl3 (k : Nat) (hk : 5000 < k) (hk2 : k < 1000000) (N : Nat) (hN : N ≤ 1000) (t : List UInt8) : ∀ (n i : Nat) (x l : List Txn), i + l.length = N → N < n + i → x.length = i → (∀ o ∈ l, OkT k o) → (x ++ l).Pairwise (fun a b => dotLt a.1 b.1 = true) → (l.flatMap codeTx ++ t).length < 4000000 →
    txn_ReadList.l3 k n x (N : Int) (i : Int) (l.flatMap codeTx ++ t, 0) = some (x ++ l, (t, 0))
  | 0, i, _, _, h, h', _, _, _, _ => by omega
  | n + 1, i, x, [], h, _, hx, _, hc, _ => by
    have hi : N = i := by simpa using h.symm
    subst hi
    rw [List.append_nil] at hc
    obtain ⟨b1, g1, i1⟩ := trises_is k x (by omega) (by omega) hk2
    have hb : b1 = true := i1.2 hc
    subst hb
    rw [txn_ReadList.l3_eq, ilt_nn, decide_eq_false (Nat.lt_irrefl _)]
    have bt : bnot true = false := rfl
    simp only [br_false, fault_is, bnd_some, ieq_dec, decide_true, br_true, g1, bt, List.append_nil, List.flatMap_nil, List.nil_append]
  | n + 1, i, x, d :: l, h, h', hx, hr, hc, hS => by
    simp only [List.length_cons] at h
    have e4 : iadd .i64 (i : Int) 1 = ((i + 1 : Nat) : Int) := iadd_nat (by omega)
    have ea : (d :: l).flatMap codeTx ++ t = codeTx d ++ (l.flatMap codeTx ++ t) := by rw [List.flatMap_cons, List.append_assoc]
    rw [ea] at hS ⊢
    have hS2 : (l.flatMap codeTx ++ t).length < 4000000 := by rw [List.length_append] at hS; omega
    rw [txn_ReadList.l3_eq, ilt_nn, decide_eq_true (show i < N by omega), back_txn k _ (hr d (by simp)) hk hk2 hS, e4]
    simp only [br_true, bnd_some]
    rw [room1 (show x.length < 4000000 by omega), br_true]
    have := back_tl3 k hk hk2 N hN t n (i + 1) (app x (d :: [])) l (by omega) (by omega) (by simp [app, hx]) (fun e he => hr e (List.mem_cons_of_mem _ he)) (by unfold app; rw [List.append_assoc]; exact hc) hS2
    refine this.trans ?_
    simp [app]
theorem back_tl (k : Nat) (l : List Txn) (most : Int) (t : List UInt8) (hr : ∀ o ∈ l, OkT k o) (hc : l.Pairwise (fun a b => dotLt a.1 b.1 = true)) (hm : (l.length : Int) ≤ most) (hl : l.length ≤ 1000) (hk : 5000 < k) (hk2 : k < 1000000) (hS : (codeTL l ++ t).length < 4000000) :
    txn_ReadList.f k most (codeTL l ++ t, 0) = some (l, (t, 0)) := by
  have ea : codeTL l ++ t = packB l.length ++ (l.flatMap codeTx ++ t) := by unfold codeTL; rw [List.append_assoc]
  rw [ea] at hS ⊢
  have hS2 : (l.flatMap codeTx ++ t).length < 4000000 := by rw [List.length_append] at hS; omega
  have hlen := codes_len codeTx codeTx_pos l
  rw [txn_ReadList.f_eq, back_many k _ most _ (by omega) (by omega) hm (by rw [List.length_append]; omega) hS]
  simp only [bnd_some]
  exact back_tl3 k hk hk2 l.length hl t k 0 [] l (by omega) (by omega) rfl hr hc hS2
end Go.Proofs.YtbiihldcljemfaaGreatDoor
end
section
/- A state that may be is read as it was told. -/
set_option linter.unusedVariables false
set_option linter.unusedSimpArgs false
namespace Go.Proofs.YtbiihldcljemfaaGreatDoor
open Pal
def codeSt (s : Sta) : List UInt8 := codeTL s.1 ++ (codeT s.2.1 ++ (codeS s.2.2.2.1 ++ s.2.2.2.2.flatMap codeL))
theorem RightS.ok {k : Nat} {s : Sta} (h : RightS k s) (hsh : ∀ t ∈ s.1, ShortT t) (hk : 1000 < k) (hk2 : k < 1000000) : ∀ t ∈ s.1, OkT k t := fun t ht => by
  have st := (hsh t ht).siz hk
  obtain ⟨e, g1, g2⟩ := txn_is k t st.each st.ops (by omega) hk2
  rw [h.chk t ht] at g2
  injection g2 with g2
  exact txn_ok k t st (by omega) hk2 (by rw [g1, ← g2])
theorem redo_le {R : List (List Dot)} (h : ∀ l ∈ R, l.length ≤ 40 ∧ ∀ d ∈ l, rightD d = true) (h8 : R.length ≤ 8) : (R.flatMap codeL).length ≤ 5184 := by
  have := codes_le codeL 648 R (fun l hl => by
    obtain ⟨h1, h2⟩ := h l hl
    have := codeL_le h2 (by omega); omega)
  omega
theorem sstcode_l (k : Nat) (R : List (List Dot)) (h8 : R.length = 8) (hr : ∀ l ∈ R, l.length ≤ 40 ∧ ∀ d ∈ l, rightD d = true) (hk : 5000 < k) (hk2 : k < 1000000) : ∀ (n i : Nat) (x : List UInt8), i ≤ 8 → 8 < n + i → x.length ≤ 3000000 + 648 * i → state_Code.l3 k n x R (i : Int) = some (x ++ (R.drop i).flatMap codeL)
  | 0, i, _, h, h', _ => by omega
  | n + 1, i, x, h, h', hx => by
    rw [state_Code.l3_eq, show ilt (i : Int) 8 = decide (i < 8) from ilt_nn i 8, inB_nat, natOf_nat]
    by_cases hi : i < 8
    · have hi' : i < R.length := by omega
      obtain ⟨hd1, hd2⟩ := hr R[i] (List.getElem_mem hi')
      have hp := codeL_le hd2 (by omega)
      have e4 : iadd .i64 (i : Int) 1 = ((i + 1 : Nat) : Int) := iadd_nat (by omega)
      have ed : R.drop i = R[i] :: R.drop (i + 1) := List.drop_eq_getElem_cons hi'
      rw [decide_eq_true hi, rd_at' (e := .slc tDot) hi', lcode_is k hd2 (by omega) hk2, e4, ed, List.flatMap_cons]
      simp only [br_true, bnd_some]
      rw [roomS_ok (by omega) (by omega), br_true]
      refine (sstcode_l k R h8 hr hk hk2 n (i + 1) _ (by omega) (by omega) (by unfold app; rw [List.length_append]; omega)).trans ?_
      unfold app; rw [List.append_assoc]
    · have e0 : R.drop i = [] := List.drop_eq_nil_of_le (by omega)
      rw [decide_eq_false hi, br_false, e0]; simp
theorem ShortS.redoR {k : Nat} {s : Sta} (h : ShortS s) (hr : RightS k s) : ∀ l ∈ s.2.2.2.2, l.length ≤ 40 ∧ ∀ d ∈ l, rightD d = true := fun l hl => ⟨h.redo l hl, (hr.redo l hl).2⟩
theorem stcode_is (k : Nat) {s : Sta} (sh : ShortS s) (hr : RightS k s) (h8 : s.2.2.2.2.length = 8) (hk : 5000 < k) (hk2 : k < 1000000) : state_Code.f k s = some (codeSt s) ∧ (codeSt s).length ≤ 2700000 := by
  have ho := hr.ok sh.each (by omega) hk2
  have l1 := codeTL_le ho sh.each sh.tx
  have l2 := codeT_le hr.un.rt sh.un (by omega)
  have l3 := codeS_le hr.se.1 sh.se (by omega)
  have l4 := redo_le (sh.redoR hr) (by omega)
  have hun := sh.un; have hse := sh.se
  constructor
  · rw [state_Code.f_eq, tlcode_is k ho sh.each sh.tx hk hk2, bnd_some, tcode_is k hr.un.rt (by omega) hk2, bnd_some, roomS_ok (by omega) (by omega), br_true, scode_is k hr.se.1 (by omega) (by omega) hk2, bnd_some, roomS_ok (by unfold app; rw [List.length_append]; omega) (by omega), br_true]
    refine (sstcode_l k s.2.2.2.2 h8 (sh.redoR hr) hk hk2 k 0 _ (by omega) (by omega) (by unfold app; simp only [List.length_append]; omega)).trans ?_
    rw [List.drop_zero]; unfold app codeSt; simp only [List.append_assoc]
  · unfold codeSt; simp only [List.length_append]; omega
theorem back_st3 (k : Nat) (s : Sta) (h8 : s.2.2.2.2.length = 8) (sh : ShortS s) (hr : RightS k s) (t : List UInt8) (hk : 5000 < k) (hk2 : k < 1000000) : ∀ (n i : Nat) (R : List (List Dot)), i ≤ 8 → 8 < n + i → R.length = 8 → (∀ j : Nat, j < i → R[j]? = s.2.2.2.2[j]?) → (List.flatMap codeL (s.2.2.2.2.drop i) ++ t).length < 4000000 →
    state_Read.l3 k n (i : Int) [] [] (zarr 16 0) [] (zarr 16 0) [] (zarr 8 []) s.1 s.2.1 (zarr 16 0) [] (s.2.2.2.1, R) (List.flatMap codeL (s.2.2.2.2.drop i) ++ t, 0) = some (s, (t, 0))
  | 0, i, _, h, h', _, _, _ => by omega
  | n + 1, i, R, h, h', hR, hj, hS => by
    rw [state_Read.l3_eq, show ilt (i : Int) 8 = decide (i < 8) from ilt_nn i 8, inB_nat, natOf_nat]
    by_cases hi : i < 8
    · have hi' : i < s.2.2.2.2.length := by omega
      obtain ⟨hd1, hd2⟩ := sh.redoR hr _ (List.getElem_mem hi')
      have e4 : iadd .i64 (i : Int) 1 = ((i + 1 : Nat) : Int) := iadd_nat (by omega)
      have ed : s.2.2.2.2.drop i = s.2.2.2.2[i] :: s.2.2.2.2.drop (i + 1) := List.drop_eq_getElem_cons hi'
      have ea : List.flatMap codeL (s.2.2.2.2.drop i) ++ t = codeL s.2.2.2.2[i] ++ (List.flatMap codeL (s.2.2.2.2.drop (i + 1)) ++ t) := by rw [ed, List.flatMap_cons, List.append_assoc]
      rw [ea] at hS ⊢
      have hS2 : (List.flatMap codeL (s.2.2.2.2.drop (i + 1)) ++ t).length < 4000000 := by rw [List.length_append] at hS; omega
      rw [decide_eq_true hi, back_list k _ 1000 _ hd2 (by omega) (by omega) (by omega) hk2 hS, e4]
      simp only [br_true, bnd_some]
      exact back_st3 k s h8 sh hr t hk hk2 n (i + 1) _ (by omega) (by omega) (by simp [upd, hR]) (fun j hj' => by
        show (List.set R i s.2.2.2.2[i])[j]? = _
        by_cases e : j = i
        · subst e
          rw [List.getElem?_set_self (by omega), List.getElem?_eq_getElem hi']
        · rw [List.getElem?_set_ne (fun h => e h.symm)]
          exact hj j (by omega)) hS2
    · have e0 : s.2.2.2.2.drop i = [] := List.drop_eq_nil_of_le (by omega)
      have hRs : R = s.2.2.2.2 := List.ext_getElem? fun j => by
        by_cases hj' : j < 8
        · exact hj j (by omega)
        · rw [List.getElem?_eq_none (by omega), List.getElem?_eq_none (by omega)]
      subst hRs
      have tx := sh.tx; have un := sh.un; have kn := sh.kn
      have hdl : (dotsOf s.1).length = s.1.length := by unfold dotsOf; rw [List.length_map]
      have hkn : ofD (dotsOf s.1) = s.2.2.1 := by rw [← known_ofD]; exact hr.know.symm
      obtain ⟨b1, g1, i1⟩ := state_is k s hr.kn.1.vok.len hr.se.1.vok.len h8 (fun t ht => by
        have st := (sh.each t ht).siz (k := k) (by omega)
        exact ⟨st.ops, st.each⟩) (fun l hl => by have := sh.redo l hl; omega) (by omega) (by omega) hk hk2
      have hb : b1 = true := i1.2 hr
      subst hb
      have g2 : state_Right.f k (s.1, (s.2.1, (s.2.2.1, (s.2.2.2.1, s.2.2.2.2)))) = some true := g1
      have bt : bnot true = false := rfl
      rw [decide_eq_false hi, br_false, e0, List.flatMap_nil, List.nil_append, names_is k s.1 (by omega) hk2, bnd_some, of_is k _ (by omega) hk2, bnd_some, hkn]
      simp only [fault_is, bnd_some, show ieq (0 : Int) 0 = true from rfl, br_true, g2, bt, br_false]
theorem back_state (k : Nat) {s : Sta} (t : List UInt8) (sh : ShortS s) (hr : RightS k s) (h8 : s.2.2.2.2.length = 8) (hk : 5000 < k) (hk2 : k < 1000000) (hS : (codeSt s ++ t).length < 4000000) : state_Read.f k (codeSt s ++ t, 0) = some (s, (t, 0)) := by
  have tx := sh.tx; have un := sh.un; have se := sh.se
  have ea : codeSt s ++ t = codeTL s.1 ++ (codeT s.2.1 ++ (codeS s.2.2.2.1 ++ (s.2.2.2.2.flatMap codeL ++ t))) := by unfold codeSt; simp only [List.append_assoc]
  rw [ea] at hS ⊢
  have s1 : (codeT s.2.1 ++ (codeS s.2.2.2.1 ++ (s.2.2.2.2.flatMap codeL ++ t))).length < 4000000 := by rw [List.length_append] at hS; omega
  have s2 : (codeS s.2.2.2.1 ++ (s.2.2.2.2.flatMap codeL ++ t)).length < 4000000 := by rw [List.length_append] at s1; omega
  have s3 : (s.2.2.2.2.flatMap codeL ++ t).length < 4000000 := by rw [List.length_append] at s2; omega
  rw [state_Read.f_eq, back_tl k s.1 1000 _ (hr.ok sh.each (by omega) hk2) hr.ris (by omega) (by omega) hk hk2 hS]
  simp only [bnd_some]
  rw [back_tally k s.2.1 1048576 _ hr.un (by omega) (by omega) (by omega) hk2 s1]
  simp only [bnd_some]
  rw [back_dots k s.2.2.2.1 _ hr.se.1 (by omega) hk hk2 s2]
  simp only [bnd_some]
  have := back_st3 k s h8 sh hr t hk hk2 k 0 (zarr 8 []) (by omega) (by omega) (by simp [zarr]) (fun j hj => by omega) (by rw [List.drop_zero]; exact s3)
  rw [List.drop_zero] at this
  exact this
end Go.Proofs.YtbiihldcljemfaaGreatDoor
end
section
/- Chapter 22's example: it is as it is told. -/
namespace Go.Proofs.YtbiihldcljemfaaGreatDoor
open Pal
set_option maxRecDepth 100000 in
theorem law22_awake.is (k : Nat) : law22_awake.f (k + 60) = some true := by kernel_rfl
theorem awake22 {k : Nat} (h : 60 ≤ k) : law22_awake.f k = some true := by
  obtain ⟨q, rfl⟩ : ∃ q, k = q + 60 := ⟨k - 60, by omega⟩
  exact law22_awake.is q
end Go.Proofs.YtbiihldcljemfaaGreatDoor
end
section
/- The plain law: the run of StateBack answers true for every state. -/
set_option linter.unusedVariables false
set_option linter.unusedSimpArgs false
namespace Go.Proofs.YtbiihldcljemfaaGreatDoor
open Pal
theorem end0_is (k : Nat) : pack_Reader_End.f k ([], 0) = some (0, ([], 0)) := by
  have bt : bnot true = false := rfl
  rw [pack_Reader_End.f_eq, pack_Reader_Left.f_eq, fine_is]
  simp only [bnd_some, decide_true, bt, br_false]
  have e : ilt 0 (ilen ([] : List UInt8)) = false := rfl
  rw [e]
  simp only [br_false, fault_is, bnd_some]
theorem stateBack_at (k : Nat) (hk : 5000 < k) (hk2 : k < 1000000) (s : Ty.D tState) (fs : Fits tState s) : law22_StateBack.f k s = some true := by
  have aw : law22_awake.f k = some true := awake22 (by omega)
  have bt : bnot true = false := rfl
  have bf : bnot false = true := rfl
  have h8 : s.2.2.2.2.length = 8 := fs.2.2.2.2.1
  obtain ⟨c1, g1, i1⟩ := goodS_is k s fs hk hk2
  rw [law22_StateBack.f_eq, g1, aw, bnd_some]
  cases c1 with
  | false => rw [bf]; rfl
  | true =>
  obtain ⟨hs, sh, hr⟩ := i1 rfl
  obtain ⟨e1, hl⟩ := stcode_is k sh hr h8 hk hk2
  have e2 := back_state k [] sh hr h8 hk hk2 (by rw [List.append_nil]; omega)
  rw [List.append_nil] at e2
  obtain ⟨b, q1, q2⟩ := rsameS_is k s s sh.len (fun t ht => (sh.each t ht).lenT (by omega)) h8 h8 (by omega) (by omega) hk2
  have hb : b = true := q2.2 rfl
  subst hb
  rw [bt, br_false, e1, bnd_some, pack_Open.f_eq, bnd_some]
  simp only []
  rw [e2, bnd_some]
  simp only []
  rw [q1, bnd_some, br_true, end0_is, bnd_some, show ieq (0 : Int) 0 = true from rfl, br_true, bnd_some]
theorem stateBack_true (s : Ty.D tState) (fs : Fits tState s) : ∃ k, law22_StateBack.f k s = some true := ⟨6000, stateBack_at 6000 (by decide) (by decide) s fs⟩
end Go.Proofs.YtbiihldcljemfaaGreatDoor
end
section
/- The pinned tables of unicode/utf8, out of what a tied row lists. -/
namespace Go.Proofs.YtbiihldcljemfaaGreatDoor
open Go Go.Proofs Go.Lib
open Pal
theorem tabs_reads {W : World} (h3 : VarReads Tryz.prog W "unicode/utf8.first" firstData) (h4 : VarReads Tryz.prog W "unicode/utf8.acceptRanges" acceptData) : MonoC.tab (img W) := by
  have h := utf8Tabs_of_readsT (U8Types.of260 { laysU8 with }) u8Extra h3 h4
  exact ⟨h.1, h.2⟩
end Go.Proofs.YtbiihldcljemfaaGreatDoor
end
section
/- The statement of the law StateBack, as a tied card: for every input the law returns true, and its arguments read as they did. The listed tables hold what the program's text lays. No other conditions. -/
namespace Go.Proofs.YtbiihldcljemfaaGreatDoor.stateBackDone
open Go.ChangeShapes Go.WideShapes Go.ChangeAt Go.RowKit
open Pal
set_option linter.unusedVariables false

theorem own : ownKnob Tryz.prog.godebug = none := by kernel_rfl
theorem laidOut : laidOutB Tryz.prog = true := by kernel_rfl
set_option maxRecDepth 100000 in
theorem door_met (os : Os) (args : Array Value) : laidMetH Tryz.prog Rows.stateBackRow.laid ((World.laidAll Tryz.prog os Rows.stateBackRow.laid).forCall (fun _ _ => 0) ⟨#[], args, []⟩).memory := by
  rw [MakeChecks.laidMetH_plain _ _ _ (by kernel_rfl)]; exact laidMet_laidAll _ (by kernel_rfl) (by kernel_rfl)
theorem tabs_of {W : World} (hL : laidMetH Tryz.prog Rows.stateBackRow.laid W) : MonoC.tab (img W) := by
  rw [MakeChecks.laidMetH_plain _ _ _ (by kernel_rfl)] at hL
  have h3 := Lib.laidMet.reads hL (n := "unicode/utf8.first") (d := Go.Pinned.utf8First) (by simp [Rows.stateBackRow, Rows.laid_unicode_utf8_first])
  have h4 := Lib.laidMet.reads hL (n := "unicode/utf8.acceptRanges") (d := Rows.laid_unicode_utf8_acceptRanges) (by simp [Rows.stateBackRow])
  rw [Pinned.utf8First_eq] at h3
  exact tabs_reads h3 (show Lib.VarReads Tryz.prog W "unicode/utf8.acceptRanges" Lib.acceptData from (show Rows.laid_unicode_utf8_acceptRanges = Lib.acceptData by kernel_rfl) ▸ h4)
theorem ty0 : tyB Tryz.prog 40 37 tState = true := by kernel_rfl

theorem walk (W : World) (hTab : MonoC.tab (img W)) (v0 : Value) (x0 : Ty.D tState) (h0 : TRep (gh0 W) W (.dat tState x0) v0 []) (f0 : Fits tState x0) :
    Calls Tryz.prog 4 #[v0] W fun e w' => e = .returned (.bool true) ∧ Below W.heap.size W w' := by
  obtain ⟨k, hk⟩ := stateBack_true x0 f0
  exact law_calls' (args := [.dat tState x0]) (argv := [v0]) (code := law22_StateBack.body) (σ := law22_StateBack.sg) (F := fun x => law22_StateBack.f k x) (x := (x0)) (r := true) (law22_StateBack.ok k) Tryz.func4 (by kernel_rfl) (by kernel_rfl) (by kernel_rfl) (by kernel_rfl) hk rfl rfl
    ⟨v0, _, [], [], rfl, rfl, h0, ⟨rfl, rfl⟩⟩ hTab

set_option maxRecDepth 100000 in
theorem lifted (os : Os) (started : os.Started) (H : Type) (enc : TypeId × Value → H) :
    ReturnsInHanded {} Tryz.checked os 4 .any (fun w args => (Rows.stateBackSpec.pre enc Tryz.prog Tryz.f4 [] false w args ∧ laidMetH Tryz.prog Rows.stateBackRow.laid w) ∧ sizedMet enc Tryz.prog Tryz.f4 (OpenSpec.ofChange Rows.stateBackSpec) false w args)
      (Rows.stateBackSpec.post enc Tryz.prog Tryz.f4 false true false false) := by
  refine returnsInHanded_of_change_and (C := Tryz.checked) (X := fun w _ => laidMetH Tryz.prog Rows.stateBackRow.laid w) (fun _ _ _ hh h => h.of_heap hh) own started (by kernel_rfl) Tryz.func4
    (ChangeSpec.witness_shaped (enc := enc) (C := Tryz.checked) (os := os) (X := fun w _ => laidMetH Tryz.prog Rows.stateBackRow.laid w) false (World.laidAll Tryz.prog os Rows.stateBackRow.laid) #[.agg #[.slice none 0 0, .slice none 0 0, .int .i64 0, .int .i64 0, .int .i64 0, .int .i64 0, .int .i64 0, .int .i64 0, .int .i64 0, .int .i64 0, .int .i64 0, .int .i64 0, .int .i64 0, .int .i64 0, .int .i64 0, .int .i64 0, .int .i64 0, .int .i64 0, .slice none 0 0, .int .i64 0, .int .i64 0, .int .i64 0, .int .i64 0, .int .i64 0, .int .i64 0, .int .i64 0, .int .i64 0, .int .i64 0, .int .i64 0, .int .i64 0, .int .i64 0, .int .i64 0, .int .i64 0, .int .i64 0, .int .i64 0, .slice none 0 0, .slice none 0 0, .slice none 0 0, .slice none 0 0, .slice none 0 0, .slice none 0 0, .slice none 0 0, .slice none 0 0, .slice none 0 0]] 12 (World.laidAll_os _ _ _) (World.shaped_of_ZipB (by kernel_rfl) (by kernel_rfl)) (by kernel_rfl) (by kernel_rfl) (by kernel_rfl) (door_met os _)) ?_
  intro W base args ds gs before hval0 hW _ _ hL _
  have hval : ∀ (j : Nat) t v, Tryz.f4.params[j]? = some t → args[j]? = some v → Value.okWide Tryz.prog W .any base t v := hval0
  have hW' := hW
  obtain ⟨p, q, hA0, hV, rfl, hfz, hnd⟩ := hW
  have hA : DataW.TrodAll enc Tryz.prog W 0 (fun _ => true) true Tryz.f4.params.toList args.toList ds p := hA0
  rw [Tryz.params4] at hA hval
  obtain ⟨v0, vs0, d0, ds0, p0, q0, hargs, rfl, rfl, h0, r0⟩ := trodAll_cons hA
  obtain ⟨rfl, rfl, rfl⟩ := trodAll_nil r0
  obtain rfl : args = #[v0] := by cases args; simp_all
  obtain ⟨rfl, rfl⟩ := trodVars_none hV
  have k0 := h0
  have lt0 : ∀ x ∈ p0, x.block < W.heap.size := by obtain ⟨m, hm⟩ := k0; exact DataW.trod_lt m _ _ _ hm
  obtain ⟨x0, g0, f0⟩ := arg_open ty0 (hval 0 37 v0 rfl rfl) h0
  clear hA0 hval0
  refine (walk W (tabs_of hL) v0 x0 g0 f0).mono fun e W' ⟨he, bel⟩ => ?_
  subst he
  exact ⟨_, rfl, _, _, _, [], _, [], hW', trodAll_mk1 (shut_bool Tryz.underlying4 _), (trodAll_cons_mk (Below.trod laidOut (by kernel_rfl) (of_decide_eq_true (by kernel_rfl)) k0 bel lt0) trodAll_mk0), rfl, bel.frame _, fun h => by cases h⟩

theorem over : Rows.stateBackRow.holds Tryz.pinned (OpenSpec.ofChange Rows.stateBackSpec) :=
  OpenClaim.holds_of_wide 4 Tryz.f4 rfl rfl rfl rfl rfl rfl rfl ⟨rfl, rfl, rfl, rfl, rfl⟩ rfl rfl rfl rfl rfl (by kernel_rfl) Tryz.func4 (by kernel_rfl)
    (of_decide_eq_true (by kernel_rfl)) (by unfold Func.isWrapper; first | (rw [if_pos (by decide +kernel)]; kernel_rfl) | (rw [if_neg (by decide +kernel)]; exact ⟨rfl, rfl⟩))
    (fun os started H enc _ => lifted os started H enc)

theorem proved : Rows.StateBackCardSaid :=
  Claim7.holds_tied_plain_at .later [] [.data, .pinned] true (true, "bb2cfd6679e48c08ac3e22f2b3e002716632cbad37e69db64fdce12985108230") false
    over (fun _ h => by cases h) (by kernel_rfl) (fun _ h => by cases h) stateBack_row_tie rfl ⟨rfl, rfl⟩ (by kernel_rfl) rfl
    (fun f fn hf hfn => by
      obtain rfl : f = 4 := Option.some.inj ((show Tryz.prog.funcNamed "palinode/palinodelaw22.StateBack" = some 4 by kernel_rfl).symm.trans hf) |>.symm
      obtain rfl : fn = Tryz.f4 := (Option.some.inj (Tryz.func4.symm.trans hfn)).symm
      exact ⟨by kernel_rfl, fun j t ht => by
        rw [Tryz.params4] at ht
        have hm : t ∈ [37] := by simpa using Array.mem_of_getElem? ht
        have hall : ([37].all fun u => !Tryz.prog.wantsStandIn u) = true := by kernel_rfl
        exact (show Tryz.prog.wantsStandIn t = false by simpa using List.all_eq_true.1 hall t hm)⟩)
    (by kernel_rfl)
#print axioms proved
end Go.Proofs.YtbiihldcljemfaaGreatDoor.stateBackDone
end
