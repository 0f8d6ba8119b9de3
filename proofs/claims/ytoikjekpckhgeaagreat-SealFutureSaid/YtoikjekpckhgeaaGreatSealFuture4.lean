/- The statement of the law SealFuture: for every input the law returns true, and its arguments read as they did. No conditions. -/
import Derived.KernelRfl
import Derived.Test.YtoikjekpckhgeaaGreatRows
import Derived.WalkKit
import Derived.ProofKit
import Derived.OpenShut
import Derived.ShutString
import Derived.ChangeOld
import Derived.Below
import Derived.Test.YtoikjekpckhgeaaGreatFw1
import Derived.Test.YtoikjekpckhgeaaGreatFw2
import Derived.Test.YtoikjekpckhgeaaGreatFw3
import Derived.Test.YtoikjekpckhgeaaGreatSealFuture1
import Derived.Test.YtoikjekpckhgeaaGreatSealFuture2
import Derived.Test.YtoikjekpckhgeaaGreatSealFuture3
set_option linter.unusedVariables false
set_option linter.unusedSimpArgs false
set_option linter.unusedSectionVars false
section
/- A state without what will never count again: the program's answer. -/
set_option linter.unusedVariables false
set_option linter.unusedSimpArgs false
namespace Go.Proofs.YtoikjekpckhgeaaGreat
open Pal
def isD (d : Dot) (t : Txn) : Bool := decide (t.1 = d)
theorem finals_l (k : Nat) {m n : Nat} {p : Peers} (hp : OKP m p) (s : Sta) (hs : CanS s) (ls : LenS n s) (h17 : 17 < k) (hm : m < k) (hn : n < k) (hk2 : k < 1000000) :
    ∀ (q i : Nat) (cs ns : List (Dot × Bool)) (B C : Dot → Bool), i ≤ s.1.length → s.1.length < q + i → (∀ d, mget tDot .bool cs d = B d) → (∀ d, mget tDot .bool ns d = C d) →
      ∃ cs' ns', seal_finals.l3 k q s.1 (ilen s.1) (i : Int) s cs ns p = some ((), (p, (cs', ns'))) ∧ (∀ d, mget tDot .bool cs' d = (B d || ((s.1.drop i).any (isD d) && (finalP p s d && seenU s.2.1 d)))) ∧
        ∀ d, mget tDot .bool ns' d = (C d || ((s.1.drop i).any (isD d) && (finalP p s d && !(seenU s.2.1 d))))
  | 0, i, cs, ns, B, C, h, h', _, _ => by omega
  | q + 1, i, cs, ns, B, C, h, h', hB, hC => by
    have lt := ls.tx
    rw [seal_finals.l3_eq, ilt_nat]
    by_cases hi : i < s.1.length
    · have e3 : iadd .i64 (i : Int) 1 = ((i + 1 : Nat) : Int) := iadd_nat (by omega)
      simp only [hi, decide_true, br_true, inL_nat, natOf_nat, e3, rd_at' (e := tTxn) hi, final_is k hp s hs ls _ h17 hm hn hk2, bnd_some]
      cases hf : finalP p s s.1[i].1 with
      | false =>
        obtain ⟨cs', ns', g1, g2, g3⟩ := finals_l k hp s hs ls h17 hm hn hk2 q (i + 1) cs ns B C (by omega) (by omega) hB hC
        refine ⟨cs', ns', g1, fun d => ?_, fun d => ?_⟩
        · rw [g2, any_step hi]
          by_cases e : s.1[i].1 = d
          · subst e; rw [hf]; simp
          · simp [isD, e]
        · rw [g3, any_step hi]
          by_cases e : s.1[i].1 = d
          · subst e; rw [hf]; simp
          · simp [isD, e]
      | true =>
        rw [show bnot true = false from rfl, br_false, tseen_is k s.2.1 _ (by omega) (by have := ls.un; omega) hk2 hs.un, bnd_some]
        cases hse : seenU s.2.1 s.1[i].1 with
        | true =>
          obtain ⟨cs', ns', g1, g2, g3⟩ := finals_l k hp s hs ls h17 hm hn hk2 q (i + 1) (mput tDot .bool cs s.1[i].1 true) ns (fun d => if d = s.1[i].1 then true else B d) C (by omega) (by omega) (fun d => by rw [putDot, hB]) hC
          refine ⟨cs', ns', g1, fun d => ?_, fun d => ?_⟩
          · rw [g2, any_step hi]
            by_cases e : s.1[i].1 = d
            · subst e; simp [isD, hf, hse]
            · rw [if_neg (Ne.symm e)]; simp [isD, e]
          · rw [g3, any_step hi]
            by_cases e : s.1[i].1 = d
            · subst e; rw [hse]; simp
            · simp [isD, e]
        | false =>
          obtain ⟨cs', ns', g1, g2, g3⟩ := finals_l k hp s hs ls h17 hm hn hk2 q (i + 1) cs (mput tDot .bool ns s.1[i].1 true) B (fun d => if d = s.1[i].1 then true else C d) (by omega) (by omega) hB (fun d => by rw [putDot, hC])
          refine ⟨cs', ns', g1, fun d => ?_, fun d => ?_⟩
          · rw [g2, any_step hi]
            by_cases e : s.1[i].1 = d
            · subst e; rw [hse]; simp
            · simp [isD, e]
          · rw [g3, any_step hi]
            by_cases e : s.1[i].1 = d
            · subst e; simp [isD, hf, hse]
            · rw [if_neg (Ne.symm e)]; simp [isD, e]
    · rw [decide_eq_false hi, br_false, List.drop_eq_nil_of_le (by omega)]
      exact ⟨cs, ns, rfl, fun d => by rw [hB]; simp, fun d => by rw [hC]; simp⟩
theorem final_any {p : Peers} {s : Sta} {d : Dot} (h : finalP p s d = true) : s.1.any (isD d) = true := by
  unfold finalP at h
  simp only [Bool.and_eq_true] at h
  obtain ⟨t, ht, e⟩ := findT_is.1 h.1
  exact List.any_eq_true.2 ⟨t, ht, decide_eq_true e⟩
theorem finals_is (k : Nat) {m n : Nat} {p : Peers} (hp : OKP m p) (s : Sta) (hs : CanS s) (ls : LenS n s) (h17 : 17 < k) (hm : m < k) (hn : n < k) (hk2 : k < 1000000) :
    ∃ cs ns, seal_finals.f k s p = some ((), (p, (cs, ns))) ∧ (∀ d, mget tDot .bool cs d = (finalP p s d && seenU s.2.1 d)) ∧ ∀ d, mget tDot .bool ns d = (finalP p s d && !(seenU s.2.1 d)) := by
  obtain ⟨cs, ns, g1, g2, g3⟩ := finals_l k hp s hs ls h17 hm hn hk2 k 0 [] [] (fun _ => false) (fun _ => false) (by omega) (by have := ls.tx; omega) (fun _ => rfl) (fun _ => rfl)
  refine ⟨cs, ns, by rw [seal_finals.f_eq]; exact g1, fun d => ?_, fun d => ?_⟩
  · rw [g2, List.drop_zero]
    cases hf : finalP p s d with
    | false => simp
    | true => rw [final_any hf]; simp
  · rw [g3, List.drop_zero]
    cases hf : finalP p s d with
    | false => simp
    | true => rw [final_any hf]; simp
def isR (x y : Dot × Int) : Bool := decide (y = x)
section
variable (z1 : List Txn) (z2 : List (Dot × Int)) (z3 : List Int) (z4 : List Dot) (z5 : List Int) (z6 : List Dot) (z7 : List (List Dot)) (cs ns : List (Dot × Bool)) (p : Peers) (s : Sta)
theorem cov_refs (k n4 n7 : Nat) (x29 : List Txn) (x30 x31 : Int) (x36 : List Op) (x37 x38 : Int) (l : List (Dot × Int)) (t : Txn) (hl : l.length < k) (hk2 : k < 1000000) :
    ∀ (q j : Nat) (cov : List ((Dot × Int) × Bool)) (B : Dot × Int → Bool), j ≤ l.length → l.length < q + j → (∀ x, mget tUndo .bool cov x = B x) →
      ∃ cov', seal_Compact.l10 k n4 n7 q x29 x30 x31 x36 x37 x38 l (ilen l) (j : Int) s z1 z2 z3 z4 z5 z6 z7 t cs cov ns p = seal_Compact.l7 k n4 n7 x29 x30 x31 x36 x37 (iadd .i64 x38 1) s z1 z2 z3 z4 z5 z6 z7 t cs cov' ns p ∧
        ∀ x, mget tUndo .bool cov' x = (B x || ((l.drop j).any (isR x) && mget tDot .bool cs t.1)) := by
  intro q
  induction q with
  | zero => intro j cov B h h' _; omega
  | succ q ih =>
    intro j cov B h h' hB
    rw [seal_Compact.l10_eq, ilt_nat]
    by_cases hj : j < l.length
    · have e3 : iadd .i64 (j : Int) 1 = ((j + 1 : Nat) : Int) := iadd_nat (by omega)
      rw [decide_eq_true hj, br_true, inL_nat, decide_eq_true hj, br_true, natOf_nat, e3, rd_at' (e := tUndo) hj, hB l[j]]
      cases hb : B l[j] with
      | true =>
        rw [br_true]
        obtain ⟨cov', g1, g2⟩ := ih (j + 1) (mput tUndo .bool cov l[j] true) (fun x => if x = l[j] then true else B x) (by omega) (by omega) (fun x => by rw [putRef, hB])
        refine ⟨cov', g1, fun x => ?_⟩
        rw [g2, any_step hj]
        by_cases e : l[j] = x
        · subst e; simp [isR, hb]
        · rw [if_neg (Ne.symm e)]; simp [isR, e]
      | false =>
        rw [br_false]
        obtain ⟨cov', g1, g2⟩ := ih (j + 1) (mput tUndo .bool cov l[j] (mget tDot .bool cs t.1)) (fun x => if x = l[j] then mget tDot .bool cs t.1 else B x) (by omega) (by omega) (fun x => by rw [putRef, hB])
        refine ⟨cov', g1, fun x => ?_⟩
        rw [g2, any_step hj]
        by_cases e : l[j] = x
        · subst e; simp [isR, hb]
        · rw [if_neg (Ne.symm e)]; simp [isR, e]
    · rw [decide_eq_false hj, br_false, List.drop_eq_nil_of_le (by omega)]
      exact ⟨cov, rfl, fun x => by rw [hB]; simp⟩
def covO (x : Dot × Int) (o : Op) : Bool := o.2.2.2.2.any (isR x)
theorem cov_ops (k n4 : Nat) (x29 : List Txn) (x30 x31 : Int) (l : List Op) (t : Txn) (hl : l.length < k) (hr : ∀ o ∈ l, o.2.2.2.2.length < k) (hk2 : k < 1000000) :
    ∀ (q j : Nat) (cov : List ((Dot × Int) × Bool)) (B : Dot × Int → Bool), j ≤ l.length → l.length < q + j → (∀ x, mget tUndo .bool cov x = B x) →
      ∃ cov', seal_Compact.l7 k n4 q x29 x30 x31 l (ilen l) (j : Int) s z1 z2 z3 z4 z5 z6 z7 t cs cov ns p = seal_Compact.l4 k n4 x29 x30 (iadd .i64 x31 1) s z1 z2 z3 z4 z5 z6 z7 cs cov' ns p ∧
        ∀ x, mget tUndo .bool cov' x = (B x || ((l.drop j).any (covO x) && mget tDot .bool cs t.1)) := by
  intro q
  induction q with
  | zero => intro j cov B h h' _; omega
  | succ q ih =>
    intro j cov B h h' hB
    rw [seal_Compact.l7_eq, ilt_nat]
    by_cases hj : j < l.length
    · have e3 : iadd .i64 (j : Int) 1 = ((j + 1 : Nat) : Int) := iadd_nat (by omega)
      rw [decide_eq_true hj, br_true, inL_nat, decide_eq_true hj, br_true, natOf_nat, rd_at' (e := tOp) hj]
      obtain ⟨c1, g1, g2⟩ := cov_refs z1 z2 z3 z4 z5 z6 z7 cs ns p s k n4 q x29 x30 x31 l (ilen l) (j : Int) l[j].2.2.2.2 t (hr _ (List.getElem_mem hj)) hk2 k 0 cov B (by omega) (by have := hr _ (List.getElem_mem hj); omega) hB
      obtain ⟨c2, g3, g4⟩ := ih (j + 1) c1 _ (by omega) (by omega) g2
      rw [show ((0 : Nat) : Int) = 0 from rfl] at g1
      rw [g1, e3]
      refine ⟨c2, g3, fun x => ?_⟩
      rw [g4, any_step hj, List.drop_zero]
      show _ = (B x || ((covO x l[j] || _) && _))
      rw [show (l[j].2.2.2.2.any (isR x)) = covO x l[j] from rfl]
      cases B x <;> cases covO x l[j] <;> cases mget tDot .bool cs t.1 <;> simp
    · rw [decide_eq_false hj, br_false, List.drop_eq_nil_of_le (by omega)]
      exact ⟨cov, rfl, fun x => by rw [hB]; simp⟩
def covT (cs : List (Dot × Bool)) (x : Dot × Int) (t : Txn) : Bool := t.2.2.2.2.any (covO x) && mget tDot .bool cs t.1
theorem cov_txns (k : Nat) (hl : s.1.length < k) (ho : ∀ t ∈ s.1, t.2.2.2.2.length < k ∧ ∀ o ∈ t.2.2.2.2, o.2.2.2.2.length < k) (hk2 : k < 1000000) :
    ∀ (q i : Nat) (cov : List ((Dot × Int) × Bool)) (B : Dot × Int → Bool), i ≤ s.1.length → s.1.length < q + i → (∀ x, mget tUndo .bool cov x = B x) →
      ∃ cov', seal_Compact.l4 k q s.1 (ilen s.1) (i : Int) s z1 z2 z3 z4 z5 z6 z7 cs cov ns p = seal_Compact.l19 k k s.1 (ilen s.1) 0 z1 z2 z3 z4 z5 z6 z7 [] s.2 cs cov' ns p ∧
        ∀ x, mget tUndo .bool cov' x = (B x || (s.1.drop i).any (covT cs x)) := by
  intro q
  induction q with
  | zero => intro i cov B h h' _; omega
  | succ q ih =>
    intro i cov B h h' hB
    rw [seal_Compact.l4_eq, ilt_nat]
    by_cases hi : i < s.1.length
    · have e3 : iadd .i64 (i : Int) 1 = ((i + 1 : Nat) : Int) := iadd_nat (by omega)
      rw [decide_eq_true hi, br_true, inL_nat, decide_eq_true hi, br_true, natOf_nat, rd_at' (e := tTxn) hi]
      obtain ⟨o1, o2⟩ := ho _ (List.getElem_mem hi)
      obtain ⟨c1, g1, g2⟩ := cov_ops z1 z2 z3 z4 z5 z6 z7 cs ns p s k q s.1 (ilen s.1) (i : Int) s.1[i].2.2.2.2 s.1[i] o1 o2 hk2 k 0 cov B (by omega) (by omega) hB
      obtain ⟨c2, g3, g4⟩ := ih (i + 1) c1 _ (by omega) (by omega) g2
      rw [show ((0 : Nat) : Int) = 0 from rfl] at g1
      rw [g1, e3]
      refine ⟨c2, g3, fun x => ?_⟩
      rw [g4, any_step hi, List.drop_zero]
      show ((B x || covT cs x s.1[i]) || _) = _
      rw [Bool.or_assoc]
    · rw [decide_eq_false hi, br_false, List.drop_eq_nil_of_le (by omega)]
      exact ⟨cov, rfl, fun x => by rw [hB]; simp⟩
end
end Go.Proofs.YtoikjekpckhgeaaGreat
end
section
/- What a state loses when it is compacted: one transaction's operations. -/
set_option linter.unusedVariables false
set_option linter.unusedSimpArgs false
namespace Go.Proofs.YtoikjekpckhgeaaGreat
open Pal
def turnB (k1 k2 k3 c cv g nt e : Bool) : Bool := !g && (nt || (c && ((k1 || (k2 || k3)) && (cv && e))))
noncomputable def turnW (cs ns : List (Dot × Bool)) (cov : List ((Dot × Int) × Bool)) (d : Dot) (i : Nat) (o : Op) : Bool :=
  turnB (ieq o.1 1) (ieq o.1 2) (ieq o.1 3) (mget tDot .bool cs d) (mget tUndo .bool cov (d, (i : Int))) (decide (o = zeroOp)) (mget tDot .bool ns d) (ieq (ilen o.2.2.2.2) 0)
def turned (T : Nat → Op → Bool) : Nat → List Op → List Op
  | _, [] => []
  | i, o :: r => (if T i o = true then zeroOp else o) :: turned T (i + 1) r
def anyT (T : Nat → Op → Bool) : Nat → List Op → Bool
  | _, [] => false
  | i, o :: r => T i o || anyT T (i + 1) r
theorem turned_len (T : Nat → Op → Bool) : ∀ (l : List Op) (i : Nat), (turned T i l).length = l.length
  | [], _ => rfl
  | o :: r, i => by simp [turned, turned_len T r (i + 1)]
def compT (T : Nat → Op → Bool) (t : Txn) : Txn := (t.1, (t.2.1, (t.2.2.1, ((t.2.2.2.1 || anyT T 0 t.2.2.2.2), turned T 0 t.2.2.2.2))))
section
variable (z1 : List Txn) (z2 : List (Dot × Int)) (z3 : List Int) (z4 : List Dot) (z5 : List Int) (z6 : List Dot) (z7 : List (List Dot)) (cs ns : List (Dot × Bool)) (cov : List ((Dot × Int) × Bool)) (p : Peers)
theorem turn_l (k n19 : Nat) (x66 : List Txn) (x67 x68 : Int) (out : List Txn) (b : List (Dot × Int) × (DSet × (DSet × List (List Dot)))) (d : Dot) (u1 u2 : Int) (N : Nat) (hN : N < 1000000) :
    ∀ (rest done : List Op) (q : Nat) (thin : Bool), done.length + rest.length = N → rest.length < q →
      seal_Compact.l23 k n19 q x66 x67 x68 (N : Int) (N : Int) (done.length : Int) z1 z2 z3 z4 z5 z6 z7 out b d u1 u2 thin (N : Int) cs cov (done ++ rest) ns p =
        br (room out [(d, (u1, (u2, ((thin || anyT (turnW cs ns cov d) done.length rest), done ++ turned (turnW cs ns cov d) done.length rest))))]) (seal_Compact.l19 k n19 x66 x67 (iadd .i64 x68 1) z1 z2 z3 z4 z5 z6 z7 (app out [(d, (u1, (u2, ((thin || anyT (turnW cs ns cov d) done.length rest), done ++ turned (turnW cs ns cov d) done.length rest))))]) b cs cov ns p) none
  | [], done, 0, thin, h1, h2 => by simp at h2
  | o :: rest, done, 0, thin, h1, h2 => by simp at h2
  | [], done, q + 1, thin, h1, h2 => by
    simp only [List.length_nil, Nat.add_zero] at h1
    rw [seal_Compact.l23_eq, show ilt (done.length : Int) (N : Int) = false from decide_eq_false (by omega), br_false]
    rw [show ieq (N : Int) (ilen (done ++ ([] : List Op))) = true by simp [ieq, ilen, h1]]
    simp only [br_true, anyT, turned, Bool.or_false, List.append_nil]
  | o :: rest, done, q + 1, thin, h1, h2 => by
    simp only [List.length_cons] at h1 h2
    have hlt : done.length < (done ++ o :: rest).length := by simp
    have ho : rd tOp (done ++ o :: rest) done.length = o := by rw [rd_at' (e := tOp) hlt]; simp
    have e3 : iadd .i64 (done.length : Int) 1 = ((done.length + 1 : Nat) : Int) := iadd_nat (by omega)
    have hup : upd (done ++ o :: rest) done.length zeroOp = (done ++ [zeroOp]) ++ rest := by simp [upd]
    have hke : done ++ o :: rest = (done ++ [o]) ++ rest := by simp
    have ih1 := turn_l k n19 x66 x67 x68 out b d u1 u2 N hN rest (done ++ [zeroOp]) q true (by simp; omega) (by omega)
    have ih0 := turn_l k n19 x66 x67 x68 out b d u1 u2 N hN rest (done ++ [o]) q thin (by simp; omega) (by omega)
    rw [List.length_append, List.length_singleton] at ih1 ih0
    have hT : turnW cs ns cov d done.length o = turnB (ieq o.1 1) (ieq o.1 2) (ieq o.1 3) (mget tDot .bool cs d) (mget tUndo .bool cov (d, (done.length : Int))) (decide (o = zeroOp)) (mget tDot .bool ns d) (ieq (ilen o.2.2.2.2) 0) := rfl
    have step : seal_Compact.l23 k n19 (q + 1) x66 x67 x68 (N : Int) (N : Int) (done.length : Int) z1 z2 z3 z4 z5 z6 z7 out b d u1 u2 thin (N : Int) cs cov (done ++ o :: rest) ns p =
        br (turnW cs ns cov d done.length o) (seal_Compact.l23 k n19 q x66 x67 x68 (N : Int) (N : Int) ((done.length + 1 : Nat) : Int) z1 z2 z3 z4 z5 z6 z7 out b d u1 u2 true (N : Int) cs cov ((done ++ [zeroOp]) ++ rest) ns p)
          (seal_Compact.l23 k n19 q x66 x67 x68 (N : Int) (N : Int) ((done.length + 1 : Nat) : Int) z1 z2 z3 z4 z5 z6 z7 out b d u1 u2 thin (N : Int) cs cov ((done ++ [o]) ++ rest) ns p) := by
      rw [seal_Compact.l23_eq, show ilt (done.length : Int) (N : Int) = true from decide_eq_true (by omega), br_true, natOf_nat, ho, e3,
        show inI (done.length : Int) (N : Int) = true by simp [inI]; omega, show inL (done.length : Int) (done ++ o :: rest) = true by rw [inL_nat]; exact decide_eq_true hlt, hT]
      rw [show (upd (done ++ o :: rest) done.length (0, ([], ((0, (0, [])), (0, []))))) = (done ++ [zeroOp]) ++ rest from hup]
      rw [hke]
      simp only [br_true, gone_is, bnd_some]
      generalize ieq o.1 1 = b1
      generalize ieq o.1 2 = b2
      generalize ieq o.1 3 = b3
      generalize mget tDot .bool cs d = b4
      generalize mget tUndo .bool cov (d, (done.length : Int)) = b5
      generalize decide (o = zeroOp) = b6
      generalize mget tDot .bool ns d = b7
      generalize ieq (ilen o.2.2.2.2) 0 = b8
      cases b1 <;> cases b2 <;> cases b3 <;> cases b4 <;> cases b5 <;> cases b6 <;> cases b7 <;> cases b8 <;> rfl
    rw [step]
    simp only [anyT, turned]
    cases hh : turnW cs ns cov d done.length o with
    | true =>
      rw [br_true, ih1]
      simp [List.append_assoc]
    | false =>
      rw [br_false, ih0]
      simp [List.append_assoc]
end
end Go.Proofs.YtoikjekpckhgeaaGreat
end
section
/- A state without what will never count again: the program's answer, as a whole. -/
set_option linter.unusedVariables false
set_option linter.unusedSimpArgs false
namespace Go.Proofs.YtoikjekpckhgeaaGreat
open Pal
noncomputable def compD (cs ns : List (Dot × Bool)) (cov : List ((Dot × Int) × Bool)) (t : Txn) : Txn := compT (turnW cs ns cov t.1) t
section
variable (z1 : List Txn) (z2 : List (Dot × Int)) (z3 : List Int) (z4 : List Dot) (z5 : List Int) (z6 : List Dot) (z7 : List (List Dot)) (cs ns : List (Dot × Bool)) (cov : List ((Dot × Int) × Bool)) (p : Peers)
theorem comp_l (k : Nat) (l : List Txn) (b : List (Dot × Int) × (DSet × (DSet × List (List Dot)))) (hl : l.length < 1000000) (ho : ∀ t ∈ l, t.2.2.2.2.length < k) (hk2 : k < 1000000) :
    ∀ (q i : Nat) (out : List Txn), i ≤ l.length → l.length < q + i → out.length = i →
      seal_Compact.l19 k q l (ilen l) (i : Int) z1 z2 z3 z4 z5 z6 z7 out b cs cov ns p = some ((out ++ (l.drop i).map (compD cs ns cov), b), p) := by
  intro q
  induction q with
  | zero => intro i out h h' _; omega
  | succ q ih =>
    intro i out h h' hout
    rw [seal_Compact.l19_eq, ilt_nat]
    by_cases hi : i < l.length
    · have e3 : iadd .i64 (i : Int) 1 = ((i + 1 : Nat) : Int) := iadd_nat (by omega)
      have hot := ho _ (List.getElem_mem hi)
      rw [decide_eq_true hi, br_true, inL_nat, decide_eq_true hi, br_true, natOf_nat, rd_at' (e := tTxn) hi]
      rw [show room ([] : List Int) l[i].2.2.2.2 = true from room_le (by simp; omega), br_true]
      have h1 := turn_l z1 z2 z3 z4 z5 z6 z7 cs ns cov p k q l (ilen l) (i : Int) out b l[i].1 l[i].2.1 l[i].2.2.1 l[i].2.2.2.2.length (by omega) l[i].2.2.2.2 [] k l[i].2.2.2.1 (by simp) hot
      rw [show ((([] : List Op).length : Nat) : Int) = 0 from rfl, List.nil_append, List.nil_append, show ((l[i].2.2.2.2.length : Nat) : Int) = ilen l[i].2.2.2.2 from rfl, List.length_nil] at h1
      rw [h1, room_le (by simp; omega), br_true, e3]
      have h2 := ih (i + 1) (out ++ [compD cs ns cov l[i]]) (by omega) (by omega) (by simp [hout])
      rw [show app out [(l[i].1, (l[i].2.1, (l[i].2.2.1, ((l[i].2.2.2.1 || anyT (turnW cs ns cov l[i].1) 0 l[i].2.2.2.2), turned (turnW cs ns cov l[i].1) 0 l[i].2.2.2.2))))] = out ++ [compD cs ns cov l[i]] from rfl, h2]
      rw [List.drop_eq_getElem_cons hi, List.map_cons, List.append_assoc]; rfl
    · rw [decide_eq_false hi, br_false, List.drop_eq_nil_of_le (by omega)]
      simp
end
def countP (p : Peers) (s : Sta) (d : Dot) : Bool := finalP p s d && seenU s.2.1 d
def coverP (p : Peers) (s : Sta) (x : Dot × Int) : Bool := s.1.any fun t => t.2.2.2.2.any (covO x) && countP p s t.1
noncomputable def turnP (p : Peers) (s : Sta) (d : Dot) (i : Nat) (o : Op) : Bool :=
  turnB (ieq o.1 1) (ieq o.1 2) (ieq o.1 3) (countP p s d) (coverP p s (d, (i : Int))) (decide (o = zeroOp)) (finalP p s d && !(seenU s.2.1 d)) (ieq (ilen o.2.2.2.2) 0)
noncomputable def compS (p : Peers) (s : Sta) : Sta := (s.1.map fun t => compT (turnP p s t.1) t, s.2)
theorem compact_is (k : Nat) {m n : Nat} {p : Peers} (hp : OKP m p) (s : Sta) (hs : CanS s) (ls : LenS n s) (ho : ∀ t ∈ s.1, t.2.2.2.2.length < k ∧ ∀ o ∈ t.2.2.2.2, o.2.2.2.2.length < k) (h17 : 17 < k) (hm : m < k) (hn : n < k) (hk2 : k < 1000000) :
    seal_Compact.f k s p = some (compS p s, p) := by
  have lt := ls.tx
  obtain ⟨cs, ns, g1, g2, g3⟩ := finals_is k hp s hs ls h17 hm hn hk2
  rw [seal_Compact.f_eq, g1, bnd_some]
  obtain ⟨cov, g4, g5⟩ := cov_txns [] [] (zarr 16 0) [] (zarr 16 0) [] (zarr 8 []) cs ns p s k (by omega) ho hk2 k 0 [] (fun _ => false) (by omega) (by omega) (fun _ => rfl)
  have h2 := comp_l [] [] (zarr 16 0) [] (zarr 16 0) [] (zarr 8 []) cs ns cov p k s.1 s.2 (by omega) (fun t ht => (ho t ht).1) hk2 k 0 [] (by omega) (by omega) rfl
  rw [show ((0 : Nat) : Int) = 0 from rfl] at g4 h2
  rw [g4, h2, List.drop_zero, List.nil_append]
  have hT : ∀ t, compD cs ns cov t = compT (turnP p s t.1) t := by
    intro t
    have : turnW cs ns cov t.1 = turnP p s t.1 := by
      funext i o
      unfold turnW turnP
      rw [g2, g3, g5, List.drop_zero, Bool.false_or]
      unfold countP
      have hc : s.1.any (covT cs (t.1, (i : Int))) = coverP p s (t.1, (i : Int)) := by
        unfold coverP
        refine congrArg (fun f => s.1.any f) (funext fun u => ?_)
        unfold covT countP
        rw [g2]
      rw [hc]
    unfold compD
    rw [this]
  have : s.1.map (compD cs ns cov) = s.1.map fun t => compT (turnP p s t.1) t := List.map_congr_left fun t _ => hT t
  rw [this, compS]
end Go.Proofs.YtoikjekpckhgeaaGreat
end
section
/- Compacted states: plain facts. -/
set_option linter.unusedVariables false
set_option linter.unusedSimpArgs false
namespace Go.Proofs.YtoikjekpckhgeaaGreat
open Pal
theorem turned_mem {T : Nat → Op → Bool} : ∀ {l : List Op} {i : Nat} {o : Op}, o ∈ turned T i l → o = zeroOp ∧ anyT T i l = true ∨ o ∈ l
  | [], i, o, h => by simp [turned] at h
  | a :: r, i, o, h => by
    simp only [turned, List.mem_cons] at h
    simp only [anyT]
    rcases h with h | h
    · cases ht : T i a with
      | true => rw [ht, if_pos rfl] at h; exact .inl ⟨h, by simp⟩
      | false => rw [ht, if_neg (by simp)] at h; exact .inr (by rw [h]; simp)
    · rcases turned_mem h with ⟨h1, h2⟩ | h1
      · exact .inl ⟨h1, by rw [h2]; simp⟩
      · exact .inr (List.mem_cons_of_mem _ h1)
theorem turned_any (q : Op → Bool) (hz : q zeroOp = false) (T : Nat → Op → Bool) (hT : ∀ i o, T i o = true → q o = false) : ∀ (l : List Op) (i : Nat), (turned T i l).any q = l.any q
  | [], i => rfl
  | o :: r, i => by
    simp only [turned, List.any_cons, turned_any q hz T hT r (i + 1)]
    cases ht : T i o with
    | true => rw [if_pos rfl, hz, hT i o ht]
    | false => rw [if_neg (by simp)]
theorem turned_none (T : Nat → Op → Bool) (hz : ∀ i o, T i o = false) : ∀ (l : List Op) (i : Nat), turned T i l = l ∧ anyT T i l = false
  | [], i => ⟨rfl, rfl⟩
  | o :: r, i => by
    obtain ⟨h1, h2⟩ := turned_none T hz r (i + 1)
    simp [turned, anyT, h1, h2, hz]
theorem compT_none (T : Nat → Op → Bool) (hz : ∀ i o, T i o = false) (t : Txn) : compT T t = t := by
  obtain ⟨a, b, c, d, e⟩ := t
  simp [compT, turned_none T hz e 0]
theorem findT_map (f : Txn → Txn) (hf : ∀ t, (f t).1 = t.1) : ∀ (l : List Txn) (d : Dot), findT (l.map f) d = (findT l d).map f
  | [], d => rfl
  | t :: l, d => by
    rw [List.map_cons, findT, findT, hf]
    by_cases e : t.1 = d
    · rw [if_pos e, if_pos e]; rfl
    · rw [if_neg e, if_neg e]; exact findT_map f hf l d
theorem canT_map {f : Txn → Txn} (hf : ∀ t, (f t).1 = t.1) {l : List Txn} (h : CanT l) : CanT (l.map f) :=
  ⟨fun t ht => by obtain ⟨u, hu, rfl⟩ := List.mem_map.1 ht; rw [hf]; exact h.rt u hu, by
    rw [List.pairwise_map]; exact h.srt.imp fun h => by rw [hf, hf]; exact h⟩
theorem mapS_can {f : Txn → Txn} (hf : ∀ t, (f t).1 = t.1) {s : Sta} (h : CanS s) : CanS (s.1.map f, s.2) :=
  ⟨canT_map hf h.tx, h.un, h.kn, h.se, fun x => by
    show Mem s.2.2.1 x ↔ ∃ t ∈ s.1.map f, t.1 = x
    rw [h.know, ← findT_is, ← findT_is, findT_map f hf]; cases findT s.1 x <;> rfl⟩
theorem mapS_len {f : Txn → Txn} {s : Sta} {n : Nat} (h : LenS n s) : LenS n (s.1.map f, s.2) := ⟨by show (s.1.map f).length ≤ n; rw [List.length_map]; exact h.tx, h.un, h.kn, h.se, h.re⟩
theorem insT_map (f : Txn → Txn) (hf : ∀ t, (f t).1 = t.1) (t : Txn) (ht : f t = t) : ∀ l : List Txn, insT t (l.map f) = (insT t l).map f
  | [] => by simp [insT, ht]
  | x :: r => by
    simp only [List.map_cons, insT, hf]
    split
    · rw [insT_map f hf t ht r]; rfl
    · simp [ht]
theorem compS_eq (p : Peers) (s : Sta) : compS p s = (s.1.map fun t => compT (turnP p s t.1) t, s.2) := rfl
theorem compS_can {p : Peers} {s : Sta} (h : CanS s) : CanS (compS p s) := mapS_can (f := fun t => compT (turnP p s t.1) t) (fun t => rfl) h
theorem compS_len {p : Peers} {s : Sta} {n : Nat} (h : LenS n s) : LenS n (compS p s) := mapS_len h
theorem turnP_some {p : Peers} {s : Sta} {d : Dot} {i : Nat} {o : Op} (h : turnP p s d i o = true) : (finalP p s d = true ∧ seenU s.2.1 d = false) ∨ (countP p s d = true ∧ coverP p s (d, (i : Int)) = true ∧ o.2.2.2.2 = []) := by
  unfold turnP turnB at h
  simp only [Bool.and_eq_true, Bool.or_eq_true, Bool.not_eq_true'] at h
  rcases h.2 with h | h
  · exact .inl h
  · refine .inr ⟨h.1, h.2.2.1, ?_⟩
    have := h.2.2.2
    rw [ieq_dec, decide_eq_true_iff] at this
    exact List.eq_nil_of_length_eq_zero (by unfold ilen at this; omega)
theorem covO_zero (x : Dot × Int) : covO x zeroOp = false := rfl
abbrev Itm := (Dot × Int) × (Op × Int)
def addO (o : Op) : Bool := ieq o.1 1 || (ieq o.1 2 || ieq o.1 3)
def coveredU (l : List Txn) (u : List (Dot × Int)) (x : Dot × Int) : Bool := l.any fun t => seenU u t.1 && t.2.2.2.2.any (covO x)
def itemsT (g : Nat → Bool) (d : Dot) (tm : Int) : Nat → List Op → List Itm
  | _, [] => []
  | i, o :: r => (if (addO o && !g i) = true then [((d, (i : Int)), (o, tm))] else []) ++ itemsT g d tm (i + 1) r
def itemsP (l : List Txn) (u : List (Dot × Int)) : List Itm := l.flatMap fun t => if seenU u t.1 = true then itemsT (fun i => coveredU l u (t.1, (i : Int))) t.1 t.2.2.1 0 t.2.2.2.2 else []
theorem addO_zero : addO zeroOp = false := rfl
theorem items_turned (g : Nat → Bool) (d : Dot) (tm : Int) (T : Nat → Op → Bool) : ∀ (l : List Op) (i : Nat), (∀ j o, T j o = true → g j = true) → itemsT g d tm i (turned T i l) = itemsT g d tm i l
  | [], i, _ => rfl
  | o :: r, i, h => by
    simp only [turned, itemsT, items_turned g d tm T r (i + 1) h]
    cases ht : T i o with
    | true => rw [if_pos rfl, addO_zero, h i o ht]; simp
    | false => simp
theorem items_comp (l : List Txn) (u : List (Dot × Int)) (T : Dot → Nat → Op → Bool) (h : ∀ t ∈ l, ∀ i o, T t.1 i o = true → seenU u t.1 = true → o.2.2.2.2 = [] ∧ coveredU l u (t.1, (i : Int)) = true) :
    itemsP (l.map fun t => compT (T t.1) t) u = itemsP l u := by
  have hc : ∀ x, coveredU (l.map fun t => compT (T t.1) t) u x = coveredU l u x := by
    intro x
    unfold coveredU
    rw [List.any_map]
    rw [Bool.eq_iff_iff, List.any_eq_true, List.any_eq_true]
    have e : ∀ t ∈ l, (seenU u t.1 && (compT (T t.1) t).2.2.2.2.any (covO x)) = (seenU u t.1 && t.2.2.2.2.any (covO x)) := by
      intro t ht
      cases hs : seenU u t.1 with
      | false => rfl
      | true =>
        rw [Bool.true_and, Bool.true_and]
        refine turned_any (covO x) (covO_zero x) _ (fun i o hh => ?_) _ 0
        unfold covO; rw [(h t ht i o hh hs).1]; rfl
    exact ⟨fun ⟨t, ht, hh⟩ => ⟨t, ht, (e t ht).symm.trans hh⟩, fun ⟨t, ht, hh⟩ => ⟨t, ht, (e t ht).trans hh⟩⟩
  unfold itemsP
  rw [List.flatMap_map]
  rw [List.flatMap_def, List.flatMap_def]
  refine congrArg List.flatten (List.map_congr_left fun t ht => ?_)
  show (if seenU u t.1 = true then itemsT (fun i => coveredU (l.map fun t => compT (T t.1) t) u (t.1, (i : Int))) t.1 t.2.2.1 0 (turned (T t.1) 0 t.2.2.2.2) else []) = _
  cases hs : seenU u t.1 with
  | false => rfl
  | true =>
    rw [if_pos rfl, if_pos rfl]
    simp only [hc]
    exact items_turned _ _ _ _ _ _ fun j o hh => (h t ht j o hh hs).2
theorem final_mem {p : Peers} {s : Sta} {d : Dot} (h : finalP p s d = true) : (findT s.1 d).isSome = true := by
  unfold finalP at h
  simp only [Bool.and_eq_true] at h
  exact h.1
theorem compS_new {p : Peers} {s : Sta} {t : Txn} (h : findT s.1 t.1 = none) : compT (turnP p s t.1) t = t := by
  refine compT_none _ (fun i o => ?_) t
  have hf : finalP p s t.1 = false := by
    rw [Bool.eq_false_iff]; intro hh
    have := final_mem hh; rw [h] at this; cases this
  cases ht : turnP p s t.1 i o with
  | false => rfl
  | true =>
    rcases turnP_some ht with ⟨h1, _⟩ | ⟨h1, _⟩
    · rw [hf] at h1; cases h1
    · unfold countP at h1; rw [hf] at h1; cases h1
theorem comp_puts (f : Txn → Txn) (hf : ∀ t, (f t).1 = t.1) : ∀ (m : List Txn) (s : Sta), (∀ t ∈ m, findT s.1 t.1 = none → f t = t) → m.foldl putS (s.1.map f, s.2) = ((m.foldl putS s).1.map f, (m.foldl putS s).2)
  | [], s, _ => rfl
  | t :: m, s, h => by
    have e : putS (s.1.map f, s.2) t = ((putS s t).1.map f, (putS s t).2) := by
      unfold putS
      show (if (findT (s.1.map f) t.1).isSome then _ else _) = _
      rw [findT_map f hf]
      cases hh : findT s.1 t.1 with
      | some v => rfl
      | none =>
        show (insT t (s.1.map f), _) = _
        rw [insT_map f hf t (h t (by simp) hh)]; rfl
    rw [List.foldl_cons, e, comp_puts f hf m (putS s t) (fun v hv hn => ?_), List.foldl_cons]
    refine h v (List.mem_cons_of_mem _ hv) ?_
    unfold putS at hn
    cases hh : findT s.1 t.1 with
    | some w => rw [hh] at hn; exact hn
    | none =>
      rw [hh] at hn
      have hn' : findT (insT t s.1) v.1 = none := hn
      rw [findT_none] at hn' ⊢
      intro y hy
      refine hn' y ?_
      clear hn hn' hh e
      generalize s.1 = l at hy
      induction l with
      | nil => cases hy
      | cons a r ih =>
        rw [insT]
        split
        · rcases List.mem_cons.1 hy with rfl | hy
          · simp
          · exact List.mem_cons_of_mem _ (ih hy)
        · exact List.mem_cons_of_mem _ hy
theorem comp_merged (p : Peers) (s : Sta) (d : Dlt) : mergedS (compS p s) d = ((mergedS s d).1.map fun t => compT (turnP p s t.1) t, (mergedS s d).2) := by
  have e := comp_puts (fun t => compT (turnP p s t.1) t) (fun _ => rfl) d.1 s (fun t _ hn => compS_new hn)
  unfold mergedS
  rw [compS_eq, e]; rfl
theorem comp_future (p : Peers) (s : Sta) (d : Dlt) {n m : Nat} (hs : CanS s) (hd : CanDl d) (ls : LenS n s) (ld : LenD m d) (hu : ∀ u ∈ d.2.1, finalP p s u.1 = true → u.2 ≤ getU s.2.1 u.1) :
    itemsP (mergedS (compS p s) d).1 (mergedS (compS p s) d).2.1 = itemsP (mergedS s d).1 (mergedS s d).2.1 := by
  rw [comp_merged]
  obtain ⟨c1, _, c3⟩ := mergedS_all hs hd ls ld
  obtain ⟨_, _, g3, g4, _, _⟩ := puts_all d.1 s hs hd.tx.rt
  have hun : (mergedS s d).2.1 = joinU s.2.1 d.2.1 := by show joinU (d.1.foldl putS s).2.1 d.2.1 = _; rw [g3]
  have hseen : ∀ x, finalP p s x = true → seenU (mergedS s d).2.1 x = seenU s.2.1 x := by
    intro x hx
    unfold seenU
    rw [hun, joinU_get hs.un hd.un]
    have : getU d.2.1 x ≤ getU s.2.1 x := by
      by_cases h0 : getU d.2.1 x = 0
      · rw [h0]; exact (getU_range hs.un x).1
      · exact hu _ (getU_pos h0) hx
    rw [Int.max_eq_left this]
  refine items_comp (mergedS s d).1 (mergedS s d).2.1 (turnP p s) fun t ht i o h hsn => ?_
  rcases turnP_some h with ⟨h1, h2⟩ | ⟨h1, h2, h3⟩
  · rw [hseen _ h1, h2] at hsn; cases hsn
  · refine ⟨h3, ?_⟩
    unfold coverP at h2
    obtain ⟨v, hv, hh⟩ := List.any_eq_true.1 h2
    unfold countP at hh
    simp only [Bool.and_eq_true] at hh
    refine List.any_eq_true.2 ⟨v, ?_, ?_⟩
    · have := c3 v.1
      rw [findT_mem hs.tx hv] at this
      exact (findT_some this).1
    · rw [hseen _ hh.2.1, hh.2.2, hh.1]; rfl
end Go.Proofs.YtoikjekpckhgeaaGreat
end
section
/- What can be sealed, and what is heard more: plain facts. -/
set_option linter.unusedVariables false
set_option linter.unusedSimpArgs false
namespace Go.Proofs.YtoikjekpckhgeaaGreat
open Pal
end Go.Proofs.YtoikjekpckhgeaaGreat
end
section
/- What all replicas have, and what nobody needs any more: the program's answer and the document's. -/
set_option linter.unusedVariables false
set_option linter.unusedSimpArgs false
namespace Go.Proofs.YtoikjekpckhgeaaGreat
open Pal
section
variable (z1 : List Txn) (z2 : List (Dot × Int)) (z3 : List Int) (z4 : List Dot) (z5 : List Int) (z6 : List Dot) (z7 : List (List Dot))
end
end Go.Proofs.YtoikjekpckhgeaaGreat
end
section
/- What is begun with in chapter 30; a compacted state may be. -/
set_option linter.unusedVariables false
set_option linter.unusedSimpArgs false
namespace Go.Proofs.YtoikjekpckhgeaaGreat
open Pal
theorem u8_rng30 {a : Int} (h : Fits (.int .u8) a) : 0 ≤ a ∧ a < 256 := by
  have h : (decide (IntKind.min .u8 ≤ a) && decide (a ≤ IntKind.max .u8)) = true := h
  rw [Bool.and_eq_true, decide_eq_true_eq, decide_eq_true_eq] at h
  have h1 : IntKind.min .u8 = 0 := rfl
  have h2 : IntKind.max .u8 = 255 := rfl
  omega
theorem new30_is (k : Nat) (i n : Int) (h0 : 0 ≤ i) (h1 : i < n) (h2 : n ≤ 16) : peer_New.f k i n = some (0, (i, (n, zarr 16 emptyK))) := by
  have e1 : ilt n 1 = false := decide_eq_false (by omega)
  have e2 : ilt 16 n = false := decide_eq_false (by omega)
  have e3 : ilt i 0 = false := decide_eq_false (by omega)
  have e4 : ile n i = false := decide_eq_false (by omega)
  rw [peer_New.f_eq, e1, e2, e3, e4]; rfl
theorem begun30_l (k : Nat) (hk : 5000 < k) (hk2 : k < 1000000) (l : List Know) (fl : ∀ x ∈ l, Fits tKnow x) (hl : l.length ≤ 16) : ∀ (q i : Nat) (p : Peers), i ≤ l.length → l.length < q + i → OKP (100 * i) p →
    ∃ (b : Bool) (p' : Peers), law30_begun.l8 k q l (i : Int) p p = some (b, (p', p')) ∧ OKP 1600 p'
  | 0, i, p, h, h', _ => by omega
  | q + 1, i, p, h, h', hp => by
    have bt : bnot true = false := rfl
    have bf : bnot false = true := rfl
    rw [law30_begun.l8_eq, ilt_nat]
    by_cases hi : i < l.length
    · have e3 : iadd .i64 (i : Int) 1 = ((i + 1 : Nat) : Int) := iadd_nat (by omega)
      have fx := fl _ (List.getElem_mem hi)
      obtain ⟨c, g1, g2⟩ := goodK_is k l[i] fx hk hk2
      rw [decide_eq_true hi, br_true, inL_nat, decide_eq_true hi, natOf_nat, rd_at' (e := tKnow) hi, g1, e3]
      simp only [br_true, bnd_some]
      cases c with
      | false => rw [bf, br_true]; exact ⟨false, p, rfl, hp.mono (by omega)⟩
      | true =>
        obtain ⟨ck, lk⟩ := g2 rfl
        obtain ⟨e, p1, h1, h2, h3, _⟩ := heard_both k hp (i : Int) l[i] fx.1.1.1 fx.2.2.1.1 lk (by omega) hk hk2
        rw [bt, br_false, h1, h2]
        simp only [bnd_some]
        exact begun30_l k hk hk2 l fl hl q (i + 1) p1 (by omega) (by omega) (h3.mono (by omega))
    · rw [decide_eq_false hi, br_false]
      exact ⟨true, p, rfl, hp.mono (by omega)⟩
theorem begun30_is (k : Nat) (hk : 5000 < k) (hk2 : k < 1000000) (a0 a1 : Int) (f0 : 0 ≤ a0 ∧ a0 < 256) (f1 : 0 ≤ a1 ∧ a1 < 256) (l : List Know) (fl : ∀ x ∈ l, Fits tKnow x) :
    ∃ (b : Bool) (p : Peers), law30_begun.f k a0 a1 l = some (b, (p, p)) ∧ OKP 1600 p := by
  rw [law30_begun.f_eq]
  have e1 : irem a1 16 = a1 % 16 := Int.tmod_eq_emod_of_nonneg f1.1
  have e2 : iwrap .i64 (a1 % 16) = a1 % 16 := wrap_i64 (by omega) (by omega)
  have e3 : iadd .i64 1 (a1 % 16) = 1 + a1 % 16 := iadd_s (by omega) (by omega) (by omega) (by omega)
  have e4 : iwrap .i64 a0 = a0 := wrap_i64 (by omega) (by omega)
  have e5 : irem a0 (1 + a1 % 16) = a0 % (1 + a1 % 16) := Int.tmod_eq_emod_of_nonneg f0.1
  rw [e1, e2, e3, e4, e5]
  obtain ⟨N, hN⟩ : ∃ N, N = 1 + a1 % 16 := ⟨_, rfl⟩
  have n1 : 1 ≤ N := by omega
  have n2 : N ≤ 16 := by omega
  rw [← hN]
  have m0 : 0 ≤ a0 % N := Int.emod_nonneg _ (by omega)
  have m1 : a0 % N < N := Int.emod_lt_of_pos _ (by omega)
  have z : ieq N 0 = false := by rw [ieq_dec]; exact decide_eq_false (by omega)
  have okp : ∀ m, OKP m (a0 % N, (N, zarr 16 emptyK)) := fun m => ⟨n2, rfl, fun x hx => by
    have : x = emptyK := List.eq_of_mem_replicate hx
    rw [this]; exact ⟨emptyK_can, emptyK_len m⟩⟩
  rw [z, br_false, new30_is k _ N m0 m1 n2, bnd_some, show ilt 16 (ilen l) = decide (16 < l.length) from ilt_lenR 16 l]
  by_cases h16 : 16 < l.length
  · rw [decide_eq_true h16, br_true]
    exact ⟨false, _, rfl, okp 1600⟩
  · rw [decide_eq_false h16, br_false]
    exact begun30_l k hk hk2 l fl (by omega) k 0 _ (by omega) (by omega) (okp (100 * 0))
theorem shortO_zero : ShortO zeroOp := ⟨⟨by decide, fun s hs => by cases hs⟩, by decide, by decide⟩
theorem compT_short {T : Nat → Op → Bool} {t : Txn} (ht : ShortT t) : ShortT (compT T t) :=
  ⟨by show (turned T 0 t.2.2.2.2).length ≤ 20; rw [turned_len]; exact ht.len, fun o ho => by
    rcases turned_mem (show o ∈ turned T 0 t.2.2.2.2 from ho) with ⟨h, _⟩ | h
    · rw [h]; exact shortO_zero
    · exact ht.ops o h⟩
theorem lens_of {s : Sta} (hsh : ∀ t ∈ s.1, ShortT t) {k : Nat} (hk : 1000 < k) : ∀ t ∈ s.1, t.2.2.2.2.length < k ∧ ∀ o ∈ t.2.2.2.2, o.2.2.2.2.length < k := by
  intro t ht
  have h := hsh t ht
  exact ⟨by have := h.len; omega, fun o ho => by have := (h.ops o ho).seen; omega⟩
end Go.Proofs.YtoikjekpckhgeaaGreat
end
section
/- Operations that count: the program's answer. -/
set_option linter.unusedVariables false
set_option linter.unusedSimpArgs false
namespace Go.Proofs.YtoikjekpckhgeaaGreat
open Pal
section
variable (k : Nat) (u : List (Dot × Int)) (l : List Txn)
theorem lcov_refs (n3 n7 : Nat) (x15 x26 x27 : Int) (x25 : List Op) (r : List (Dot × Int)) (hl : r.length < k) (hk2 : k < 1000000) :
    ∀ (q j : Nat) (m : List ((Dot × Int) × Bool)) (B : Dot × Int → Bool), j ≤ r.length → r.length < q + j → (∀ x, mget tUndo .bool m x = B x) →
      ∃ m', live_covered.l10 k n3 n7 q u l (ilen l) x15 x25 x26 x27 r (ilen r) (j : Int) m = live_covered.l7 k n3 n7 u l (ilen l) x15 x25 x26 (iadd .i64 x27 1) m' ∧ ∀ x, mget tUndo .bool m' x = (B x || (r.drop j).any (isR x)) := by
  intro q
  induction q with
  | zero => intro j m B h h' _; omega
  | succ q ih =>
    intro j m B h h' hB
    rw [live_covered.l10_eq, ilt_nat]
    by_cases hj : j < r.length
    · have e3 : iadd .i64 (j : Int) 1 = ((j + 1 : Nat) : Int) := iadd_nat (by omega)
      rw [decide_eq_true hj, br_true, inL_nat, decide_eq_true hj, br_true, natOf_nat, e3, rd_at' (e := tUndo) hj]
      obtain ⟨m', g1, g2⟩ := ih (j + 1) (mput tUndo .bool m r[j] true) (fun x => if x = r[j] then true else B x) (by omega) (by omega) (fun x => by rw [putRef, hB])
      refine ⟨m', g1, fun x => ?_⟩
      rw [g2, any_step hj]
      by_cases e : r[j] = x
      · subst e; simp [isR]
      · rw [if_neg (Ne.symm e)]; simp [isR, e]
    · rw [decide_eq_false hj, br_false, List.drop_eq_nil_of_le (by omega)]
      exact ⟨m, rfl, fun x => by rw [hB]; simp⟩
theorem lcov_ops (n3 : Nat) (x15 : Int) (o : List Op) (hl : o.length < k) (hr : ∀ a ∈ o, a.2.2.2.2.length < k) (hk2 : k < 1000000) :
    ∀ (q j : Nat) (m : List ((Dot × Int) × Bool)) (B : Dot × Int → Bool), j ≤ o.length → o.length < q + j → (∀ x, mget tUndo .bool m x = B x) →
      ∃ m', live_covered.l7 k n3 q u l (ilen l) x15 o (ilen o) (j : Int) m = live_covered.l3 k n3 u l (ilen l) (iadd .i64 x15 1) m' ∧ ∀ x, mget tUndo .bool m' x = (B x || (o.drop j).any (covO x)) := by
  intro q
  induction q with
  | zero => intro j m B h h' _; omega
  | succ q ih =>
    intro j m B h h' hB
    rw [live_covered.l7_eq, ilt_nat]
    by_cases hj : j < o.length
    · have e3 : iadd .i64 (j : Int) 1 = ((j + 1 : Nat) : Int) := iadd_nat (by omega)
      rw [decide_eq_true hj, br_true, inL_nat, decide_eq_true hj, br_true, natOf_nat, rd_at' (e := tOp) hj]
      obtain ⟨c1, g1, g2⟩ := lcov_refs k u l n3 q x15 (ilen o) (j : Int) o o[j].2.2.2.2 (hr _ (List.getElem_mem hj)) hk2 k 0 m B (by omega) (by have := hr _ (List.getElem_mem hj); omega) hB
      rw [show ((0 : Nat) : Int) = 0 from rfl] at g1
      rw [g1, e3]
      obtain ⟨c2, g3, g4⟩ := ih (j + 1) c1 _ (by omega) (by omega) g2
      refine ⟨c2, g3, fun x => ?_⟩
      rw [g4, any_step hj, List.drop_zero]
      show ((B x || covO x o[j]) || _) = _
      rw [Bool.or_assoc]
    · rw [decide_eq_false hj, br_false, List.drop_eq_nil_of_le (by omega)]
      exact ⟨m, rfl, fun x => by rw [hB]; simp⟩
def covU (u : List (Dot × Int)) (x : Dot × Int) (t : Txn) : Bool := seenU u t.1 && t.2.2.2.2.any (covO x)
theorem lcov_txns (hu : CanU u) (hul : u.length < k) (h3 : 3 ≤ k) (hl : l.length < k) (ho : ∀ t ∈ l, t.2.2.2.2.length < k ∧ ∀ o ∈ t.2.2.2.2, o.2.2.2.2.length < k) (hk2 : k < 1000000) :
    ∀ (q i : Nat) (m : List ((Dot × Int) × Bool)) (B : Dot × Int → Bool), i ≤ l.length → l.length < q + i → (∀ x, mget tUndo .bool m x = B x) →
      ∃ m', live_covered.l3 k q u l (ilen l) (i : Int) m = some ((), m') ∧ ∀ x, mget tUndo .bool m' x = (B x || (l.drop i).any (covU u x)) := by
  intro q
  induction q with
  | zero => intro i m B h h' _; omega
  | succ q ih =>
    intro i m B h h' hB
    rw [live_covered.l3_eq, ilt_nat]
    by_cases hi : i < l.length
    · have e3 : iadd .i64 (i : Int) 1 = ((i + 1 : Nat) : Int) := iadd_nat (by omega)
      obtain ⟨o1, o2⟩ := ho _ (List.getElem_mem hi)
      rw [decide_eq_true hi, br_true, inL_nat, decide_eq_true hi, br_true, natOf_nat, rd_at' (e := tTxn) hi, tseen_is k u _ h3 hul hk2 hu, bnd_some]
      cases hs : seenU u l[i].1 with
      | false =>
        rw [show bnot false = true from rfl, br_true, e3]
        obtain ⟨c2, g3, g4⟩ := ih (i + 1) m B (by omega) (by omega) hB
        refine ⟨c2, g3, fun x => ?_⟩
        rw [g4, any_step hi]
        unfold covU
        rw [hs]; simp
      | true =>
        rw [show bnot true = false from rfl, br_false]
        obtain ⟨c1, g1, g2⟩ := lcov_ops k u l q (i : Int) l[i].2.2.2.2 o1 o2 hk2 k 0 m B (by omega) (by omega) hB
        rw [show ((0 : Nat) : Int) = 0 from rfl] at g1
        rw [g1, e3]
        obtain ⟨c2, g3, g4⟩ := ih (i + 1) c1 _ (by omega) (by omega) g2
        refine ⟨c2, g3, fun x => ?_⟩
        rw [g4, any_step hi, List.drop_zero, Bool.or_assoc]
        show (B x || (_ || _)) = (B x || ((seenU u l[i].1 && _) || _))
        rw [hs, Bool.true_and]
    · rw [decide_eq_false hi, br_false, List.drop_eq_nil_of_le (by omega)]
      exact ⟨m, rfl, fun x => by rw [hB]; simp⟩
theorem lcovered_is (hu : CanU u) (hul : u.length < k) (h3 : 3 ≤ k) (hl : l.length < k) (ho : ∀ t ∈ l, t.2.2.2.2.length < k ∧ ∀ o ∈ t.2.2.2.2, o.2.2.2.2.length < k) (hk2 : k < 1000000) :
    ∃ m, live_covered.f k l u = some ((), m) ∧ ∀ x, mget tUndo .bool m x = coveredU l u x := by
  obtain ⟨m, g1, g2⟩ := lcov_txns k u l hu hul h3 hl ho hk2 k 0 [] (fun _ => false) (by omega) (by omega) (fun _ => rfl)
  refine ⟨m, by rw [live_covered.f_eq]; exact g1, fun x => ?_⟩
  rw [g2, List.drop_zero, Bool.false_or]; rfl
theorem all_in (n4 i : Nat) (hi : i < 1000) (t : Txn) (m : List ((Dot × Int) × Bool)) (g : Nat → Bool) (hg : ∀ j : Nat, mget tUndo .bool m (t.1, (j : Int)) = g j) (hl : t.2.2.2.2.length ≤ 20) (hk : 20 < k) :
    ∀ (q j : Nat) (x : List Itm), j ≤ t.2.2.2.2.length → t.2.2.2.2.length < q + j → x.length ≤ 20 * i + j →
      ∃ x', live_All.l8 k n4 q u x l (ilen l) (i : Int) t.2.2.2.2 (ilen t.2.2.2.2) (j : Int) t m = live_All.l4 k n4 u x' l (ilen l) (iadd .i64 (i : Int) 1) m ∧ x' = x ++ itemsT g t.1 t.2.2.1 j (t.2.2.2.2.drop j) ∧ x'.length ≤ 20 * i + t.2.2.2.2.length := by
  intro q
  induction q with
  | zero => intro j x h h' _; omega
  | succ q ih =>
    intro j x h h' hx
    rw [live_All.l8_eq, ilt_nat]
    by_cases hj : j < t.2.2.2.2.length
    · have e3 : iadd .i64 (j : Int) 1 = ((j + 1 : Nat) : Int) := iadd_nat (by omega)
      obtain ⟨y0, a1, a2, a3⟩ := ih (j + 1) x (by omega) (by omega) (by omega)
      obtain ⟨y1, b1, b2, b3⟩ := ih (j + 1) (app x (((t.1, (j : Int)), (t.2.2.2.2[j], t.2.2.1)) :: [])) (by omega) (by omega) (by simp [app]; omega)
      rw [List.drop_eq_getElem_cons hj]
      have hadd : addO t.2.2.2.2[j] = (ieq t.2.2.2.2[j].1 1 || (ieq t.2.2.2.2[j].1 2 || ieq t.2.2.2.2[j].1 3)) := rfl
      simp only [itemsT]
      rw [hadd]
      rw [decide_eq_true hj, br_true, inL_nat, decide_eq_true hj, br_true, natOf_nat, e3, rd_at' (e := tOp) hj, hg j, room1 (show x.length < 4000000 by omega)]
      simp only [br_true]
      rw [a1, b1]
      cases ieq t.2.2.2.2[j].1 1 <;> cases ieq t.2.2.2.2[j].1 2 <;> cases ieq t.2.2.2.2[j].1 3 <;> cases g j <;>
        first
          | exact ⟨y0, rfl, by rw [a2]; simp, a3⟩
          | exact ⟨y1, rfl, by rw [b2]; simp [app], b3⟩
    · rw [decide_eq_false hj, br_false, List.drop_eq_nil_of_le (by omega)]
      exact ⟨x, rfl, by simp [itemsT], by omega⟩
theorem all_l (hu : CanU u) (hul : u.length < k) (h3 : 3 ≤ k) (hl : l.length < 1000) (hlk : l.length < k) (h20 : ∀ t ∈ l, t.2.2.2.2.length ≤ 20) (hk : 20 < k) (hk2 : k < 1000000) (m : List ((Dot × Int) × Bool)) (hm : ∀ x, mget tUndo .bool m x = coveredU l u x) :
    ∀ (q i : Nat) (x : List Itm), i ≤ l.length → l.length < q + i → x.length ≤ 20 * i →
      live_All.l4 k q u x l (ilen l) (i : Int) m = some (x ++ (l.drop i).flatMap fun t => if seenU u t.1 = true then itemsT (fun i => coveredU l u (t.1, (i : Int))) t.1 t.2.2.1 0 t.2.2.2.2 else []) := by
  intro q
  induction q with
  | zero => intro i x h h' _; omega
  | succ q ih =>
    intro i x h h' hx
    rw [live_All.l4_eq, ilt_nat]
    by_cases hi : i < l.length
    · have e3 : iadd .i64 (i : Int) 1 = ((i + 1 : Nat) : Int) := iadd_nat (by omega)
      rw [List.drop_eq_getElem_cons hi, List.flatMap_cons]
      rw [decide_eq_true hi, br_true, inL_nat, decide_eq_true hi, br_true, natOf_nat, rd_at' (e := tTxn) hi, tseen_is k u _ h3 hul hk2 hu, bnd_some]
      cases hs : seenU u l[i].1 with
      | false =>
        rw [show bnot false = true from rfl, br_true, e3, ih (i + 1) x (by omega) (by omega) (by omega)]
        simp
      | true =>
        have ht := h20 _ (List.getElem_mem hi)
        obtain ⟨y, c1, c2, c3⟩ := all_in k u l q i (by omega) l[i] m (fun j => coveredU l u (l[i].1, (j : Int))) (fun j => hm _) ht hk k 0 x (by omega) (by omega) (by omega)
        rw [show ((0 : Nat) : Int) = 0 from rfl] at c1
        rw [show bnot true = false from rfl, br_false, c1, e3, ih (i + 1) y (by omega) (by omega) (by omega), c2, if_pos rfl, List.drop_zero, List.append_assoc]
    · rw [decide_eq_false hi, br_false, List.drop_eq_nil_of_le (by omega)]; simp
theorem all_is (hu : CanU u) (hul : u.length < k) (hl : l.length < 1000) (hlk : l.length < k) (h20 : ∀ t ∈ l, t.2.2.2.2.length ≤ 20) (ho : ∀ t ∈ l, t.2.2.2.2.length < k ∧ ∀ o ∈ t.2.2.2.2, o.2.2.2.2.length < k) (hk : 20 < k) (hk2 : k < 1000000) :
    live_All.f k l u = some (itemsP l u) := by
  obtain ⟨m, g1, g2⟩ := lcovered_is k u l hu hul (by omega) hlk ho hk2
  rw [live_All.f_eq, g1, bnd_some]
  have := all_l k u l hu hul (by omega) hl hlk h20 hk hk2 m g2 k 0 [] (by omega) (by omega) (by simp)
  rw [List.drop_zero, List.nil_append] at this
  exact this
end
theorem strSame_refl (k : Nat) (a : List Str) (hl : a.length < k) (hk : k < 1000000) : slices_Equal_string_string.f k a a = some true := by
  rw [slices_Equal_string_string.f_eq, ieq_len, decide_eq_true rfl, show bnot true = false from rfl, br_false]
  refine loop_up a.length (fun n i => slices_Equal_string_string.l4 k n a a (ilen a) (i : Int)) (some true) (fun n i hi => ?_) (fun n => ?_) k 0 (by omega) (by omega)
  · simp only [slices_Equal_string_string.l4_eq, ilt_nat, inL_nat, natOf_nat, hi, decide_true, br_true, seq_dec, show bnot true = false from rfl, br_false, iadd_nat (show i < 4611686018427387904 by omega)]
  · simp only [slices_Equal_string_string.l4_eq, ilt_nat, Nat.lt_irrefl, decide_false, br_false]
theorem refSame_refl (k : Nat) (a : List (Dot × Int)) (hl : a.length < k) (hk : k < 1000000) : slices_Equal_api_Ref_api_Ref.f k a a = some true := by
  rw [slices_Equal_api_Ref_api_Ref.f_eq, ieq_len, decide_eq_true rfl, show bnot true = false from rfl, br_false]
  refine loop_up a.length (fun n i => slices_Equal_api_Ref_api_Ref.l4 k n a a (ilen a) (i : Int)) (some true) (fun n i hi => ?_) (fun n => ?_) k 0 (by omega) (by omega)
  · simp only [slices_Equal_api_Ref_api_Ref.l4_eq, ilt_nat, inL_nat, natOf_nat, hi, decide_true, br_true, deqU, show bnot true = false from rfl, br_false, iadd_nat (show i < 4611686018427387904 by omega)]
  · simp only [slices_Equal_api_Ref_api_Ref.l4_eq, ilt_nat, Nat.lt_irrefl, decide_false, br_false]
theorem opSame_refl (k : Nat) (o : Op) (hl : LenO k o) (hk : k < 1000000) : op_Same.f k o o = some true := by
  rw [op_Same.f_eq]
  simp only [ieq_dec, deqVal, decide_true, br_true]
  rw [strSame_refl k _ hl.path hk, bnd_some, br_true, refSame_refl k _ hl.seen hk]; rfl
theorem liveSame_refl (k : Nat) (a : List Itm) (hl : a.length < k) (ho : ∀ x ∈ a, LenO k x.2.1) (hk : k < 1000000) : live_Same.f k a a = some true := by
  have key : slices_EqualFunc_live_Item_live_Item_live_Item_live_Item_live_Same_1.f k a a = some true := by
    rw [slices_EqualFunc_live_Item_live_Item_live_Item_live_Item_live_Same_1.f_eq, ieq_len, decide_eq_true rfl, show bnot true = false from rfl, br_false]
    refine loop_up a.length (fun n i => slices_EqualFunc_live_Item_live_Item_live_Item_live_Item_live_Same_1.l4 k n a a (ilen a) (i : Int)) (some true) (fun n i hi => ?_) (fun n => ?_) k 0 (by omega) (by omega)
    · have h1 : live_Same_1.f k a[i] a[i] = some true := by
        rw [live_Same_1.f_eq]
        simp only [deqU, ieq_dec, decide_true, br_true]
        rw [opSame_refl k _ (ho _ (List.getElem_mem hi)) hk]; rfl
      simp only [slices_EqualFunc_live_Item_live_Item_live_Item_live_Item_live_Same_1.l4_eq, ilt_nat, inL_nat, natOf_nat, hi, decide_true, br_true, rd_at' (e := tItem) hi, h1, bnd_some, show bnot true = false from rfl, br_false, iadd_nat (show i < 4611686018427387904 by omega)]
    · simp only [slices_EqualFunc_live_Item_live_Item_live_Item_live_Item_live_Same_1.l4_eq, ilt_nat, Nat.lt_irrefl, decide_false, br_false]
  rw [live_Same.f_eq, key]; rfl
theorem itemsT_mem {g : Nat → Bool} {d : Dot} {tm : Int} : ∀ {l : List Op} {i : Nat} {x : Itm}, x ∈ itemsT g d tm i l → x.2.1 ∈ l
  | [], i, x, h => by simp [itemsT] at h
  | o :: r, i, x, h => by
    simp only [itemsT, List.mem_append] at h
    rcases h with h | h
    · split at h
      · simp at h; subst h; simp
      · cases h
    · exact List.mem_cons_of_mem _ (itemsT_mem h)
theorem itemsT_len {g : Nat → Bool} {d : Dot} {tm : Int} : ∀ (l : List Op) (i : Nat), (itemsT g d tm i l).length ≤ l.length
  | [], i => Nat.le_refl _
  | o :: r, i => by
    have := itemsT_len (g := g) (d := d) (tm := tm) r (i + 1)
    simp only [itemsT, List.length_append, List.length_cons]
    split <;> simp <;> omega
theorem flat_len {α β : Type} (f : α → List β) (c : Nat) : ∀ (l : List α), (∀ x ∈ l, (f x).length ≤ c) → (l.flatMap f).length ≤ c * l.length
  | [], _ => by simp
  | x :: l, h => by
    have h1 := flat_len f c l (fun y hy => h y (List.mem_cons_of_mem _ hy))
    have h2 := h x (by simp)
    rw [List.flatMap_cons, List.length_append, List.length_cons, Nat.mul_add]; omega
theorem itemsP_len (l : List Txn) (u : List (Dot × Int)) (h20 : ∀ t ∈ l, t.2.2.2.2.length ≤ 20) : (itemsP l u).length ≤ 20 * l.length := by
  unfold itemsP
  refine flat_len _ 20 l fun t ht => ?_
  split
  · exact Nat.le_trans (itemsT_len _ _) (h20 t ht)
  · simp
theorem itemsP_mem {l : List Txn} {u : List (Dot × Int)} {x : Itm} (h : x ∈ itemsP l u) : ∃ t ∈ l, x.2.1 ∈ t.2.2.2.2 := by
  unfold itemsP at h
  obtain ⟨t, ht, hx⟩ := List.mem_flatMap.1 h
  refine ⟨t, ht, ?_⟩
  split at hx
  · exact itemsT_mem hx
  · cases hx
end Go.Proofs.YtoikjekpckhgeaaGreat
end
section
/- Chapter 30's example: it is as it is told. -/
namespace Go.Proofs.YtoikjekpckhgeaaGreat
open Pal
set_option maxRecDepth 100000 in
theorem law30_awake.is (k : Nat) : law30_awake.f (k + 40) = some true := by kernel_rfl
theorem awake30 {k : Nat} (h : 40 ≤ k) : law30_awake.f k = some true := by
  obtain ⟨q, rfl⟩ : ∃ q, k = q + 40 := ⟨k - 40, by omega⟩
  exact law30_awake.is q
end Go.Proofs.YtoikjekpckhgeaaGreat
end
section
/- The plain law of chapter 30: SealFuture. -/
set_option linter.unusedVariables false
set_option linter.unusedSimpArgs false
namespace Go.Proofs.YtoikjekpckhgeaaGreat
open Pal
theorem future_short {s : Sta} {d : Dlt} (hs : CanS s) (hd : CanDl d) (ls : LenS 100 s) (ld : LenD 100 d) (h1 : ∀ t ∈ s.1, ShortT t) (h2 : ∀ t ∈ d.1, ShortT t) : ∀ t ∈ (mergedS s d).1, ShortT t := by
  intro t ht
  obtain ⟨c1, _, c3⟩ := mergedS_all hs hd ls ld
  have hf := c3 t.1
  rw [findT_mem c1.tx ht] at hf
  cases hx : findT s.1 t.1 with
  | some u =>
    rw [hx] at hf
    injection hf with hf
    rw [hf]; exact h1 u (findT_some hx).1
  | none =>
    rw [hx] at hf
    have hf' : findT d.1 t.1 = some t := hf.symm
    exact h2 t (findT_some hf').1
theorem sealFuture_end (k : Nat) (hk1 : 5000 < k) (hk2 : k < 1000000) {p : Peers} (hp : OKP 1600 p) {s : Sta} (cs : CanS s) (sh : ShortS s) {d : Dlt} (cd : CanDl d) (sd : ShortD d) (hu : ∀ u ∈ d.2.1, finalP p s u.1 = true → u.2 ≤ getU s.2.1 u.1) :
    live_All.f k (mergedS s d).1 (mergedS s d).2.1 = some (itemsP (mergedS s d).1 (mergedS s d).2.1) ∧ live_All.f k (mergedS (compS p s) d).1 (mergedS (compS p s) d).2.1 = some (itemsP (mergedS s d).1 (mergedS s d).2.1) ∧
      live_Same.f k (itemsP (mergedS s d).1 (mergedS s d).2.1) (itemsP (mergedS s d).1 (mergedS s d).2.1) = some true ∧ ofS (mergedS (compS p s) d) = ofS (mergedS s d) ∧ LenS 200 (mergedS s d) ∧ LenS 200 (mergedS (compS p s) d) := by
  have ls := sh.len
  have ld := sd.len
  obtain ⟨c1, c2, _⟩ := mergedS_all cs cd ls ld
  have e := comp_merged p s d
  have hm1 : ∀ t ∈ (mergedS s d).1, ShortT t := future_short cs cd ls ld sh.each sd.each
  have hm2 : ∀ t ∈ (mergedS (compS p s) d).1, ShortT t := by
    rw [e]
    intro t ht
    obtain ⟨u, hu, rfl⟩ := List.mem_map.1 ht
    exact compT_short (hm1 u hu)
  have l2 : LenS 200 (mergedS s d) := c2.mono (by omega)
  have l3 : LenS 200 (mergedS (compS p s) d) := by rw [e]; exact mapS_len l2
  have k2 : CanU (mergedS (compS p s) d).2.1 := by rw [e]; exact c1.un
  have i1 := l2.tx; have i2 := l2.un; have i3 := l3.tx; have i4 := l3.un
  refine ⟨all_is k _ _ c1.un (by omega) (by omega) (by omega) (fun t ht => (hm1 t ht).len) (lens_of hm1 (by omega)) (by omega) hk2, ?_, ?_, by rw [e]; rfl, l2, l3⟩
  · rw [all_is k _ _ k2 (by omega) (by omega) (by omega) (fun t ht => (hm2 t ht).len) (lens_of hm2 (by omega)) (by omega) hk2, comp_future p s d cs cd ls ld hu]
  · refine liveSame_refl k _ (by have := itemsP_len (mergedS s d).1 (mergedS s d).2.1 (fun t ht => (hm1 t ht).len); omega) (fun x hx => ?_) hk2
    obtain ⟨t, ht, hh⟩ := itemsP_mem hx
    exact ((hm1 t ht).lenT (by omega)).each _ hh
theorem sealFuture_l (k : Nat) (hk1 : 5000 < k) (hk2 : k < 1000000) {p : Peers} (hp : OKP 1600 p) (q : Peers) {s : Sta} (cs : CanS s) (sh : ShortS s) {d : Dlt} (cd : CanDl d) (sd : ShortD d) :
    ∀ (n i : Nat), i ≤ d.2.1.length → d.2.1.length < n + i → (∀ j (h : j < d.2.1.length), j < i → finalP p s d.2.1[j].1 = true → d.2.1[j].2 ≤ getU s.2.1 d.2.1[j].1) → law30_SealFuture.l5 k n (i : Int) s d p q = some true
  | 0, i, h, h', _ => by omega
  | n + 1, i, h, h', hu => by
    have aw : law30_awake.f k = some true := awake30 (by omega)
    have ls := sh.len
    have hun := sd.un
    rw [law30_SealFuture.l5_eq, ilt_nat]
    by_cases hi : i < d.2.1.length
    · have e3 : iadd .i64 (i : Int) 1 = ((i + 1 : Nat) : Int) := iadd_nat (by omega)
      rw [decide_eq_true hi, br_true, inL_nat, decide_eq_true hi, br_true, natOf_nat, rd_at' (e := tUndo) hi, final_is k hp s cs ls _ (by omega) (by omega) (by omega) hk2, bnd_some, e3, aw]
      cases hf : finalP p s d.2.1[i].1 with
      | false =>
        show br false _ _ = _
        rw [br_false]
        refine sealFuture_l k hk1 hk2 hp q cs sh cd sd n (i + 1) (by omega) (by omega) fun j hj hji hfj => ?_
        by_cases e : j = i
        · subst e; rw [hf] at hfj; cases hfj
        · exact hu j hj (by omega) hfj
      | true =>
        show br true _ _ = _
        rw [br_true, rget_is k _ _ (by have := ls.un; omega) hk2, bnd_some]
        cases hlt : ilt (getU s.2.1 d.2.1[i].1) d.2.1[i].2 with
        | true => rw [br_true]; rfl
        | false =>
          have hlt' : ¬ getU s.2.1 d.2.1[i].1 < d.2.1[i].2 := of_decide_eq_false hlt
          rw [br_false]
          refine sealFuture_l k hk1 hk2 hp q cs sh cd sd n (i + 1) (by omega) (by omega) fun j hj hji hfj => ?_
          by_cases e : j = i
          · subst e; omega
          · exact hu j hj (by omega) hfj
    · have hall : ∀ u ∈ d.2.1, finalP p s u.1 = true → u.2 ≤ getU s.2.1 u.1 := fun u hu' hf => by
        obtain ⟨j, hj, rfl⟩ := List.mem_iff_getElem.1 hu'
        exact hu j hj (by omega) hf
      obtain ⟨a1, a2, a3, a4, a5, a6⟩ := sealFuture_end k hk1 hk2 hp cs sh cd sd hall
      have ho := lens_of sh.each (k := k) (by omega)
      have ld := sd.len
      have clen := compS_len (p := p) ls
      have ccan := compS_can (p := p) cs
      rw [decide_eq_false hi, br_false, merged_is k s d (n := 100) (m := 100) (by omega) cs cd ls ld (by omega) hk2, bnd_some, compact_is k hp s cs ls ho (by omega) (by omega) (by omega) hk2, bnd_some]
      show (bnd (record_Merged.f k (compS p s) d) fun r5 => _) = _
      rw [merged_is k (compS p s) d (n := 100) (m := 100) (by omega) ccan cd clen ld (by omega) hk2, bnd_some]
      rw [state_Items.f_eq, state_Items.f_eq, a1, a2]
      simp only [bnd_some]
      rw [a3, bnd_some, br_true, dof_is k _ a5 (by omega), dof_is k _ a6 (by omega)]
      simp only [bnd_some]
      rw [a4, dsame_is k (ofS (mergedS s d)) (ofS (mergedS s d)) (n := 200) ⟨a5.kn, a5.un, a5.se⟩ (by omega) hk2, decide_eq_true rfl, bnd_some, br_true, aw]; rfl
theorem sealFuture_at (k : Nat) (hk1 : 5000 < k) (hk2 : k < 1000000) (a0 : Ty.D (.int .u8)) (f0 : Fits (.int .u8) a0) (a1 : Ty.D (.int .u8)) (f1 : Fits (.int .u8) a1) (l : Ty.D (.slc tKnow)) (fl : Fits (.slc tKnow) l) (s : Ty.D tState) (fs : Fits tState s) (d : Ty.D tDelta) (fd : Fits tDelta d) : law30_SealFuture.f k a0 a1 l s d = some true := by
  have aw : law30_awake.f k = some true := awake30 (by omega)
  have bt : bnot true = false := rfl
  obtain ⟨b, p, g1, hp⟩ := begun30_is k hk1 hk2 a0 a1 (u8_rng30 f0) (u8_rng30 f1) l fl.2
  rw [law30_SealFuture.f_eq, g1, aw]
  simp only [bnd_some]
  cases b with
  | false => rfl
  | true =>
    rw [bt, br_false]
    obtain ⟨c, h1, h2⟩ := goodS_is k s fs hk1 hk2
    rw [h1, bnd_some]
    cases c with
    | false => rfl
    | true =>
      obtain ⟨cs, sh, rs⟩ := h2 rfl
      obtain ⟨e, h3, h4⟩ := rshortDl_is k d (by omega) hk2
      rw [bt, br_false, h3, bnd_some]
      cases e with
      | false => rfl
      | true =>
        have sd := h4 rfl
        obtain ⟨g, h5, h6⟩ := rrightDl_is k d sd.each (by have := sd.un; omega) (by have := sd.se; omega) hk1 hk2
        rw [bt, br_false, h5, bnd_some]
        cases g with
        | false => rfl
        | true =>
          have cd := (h6.1 rfl).can sd.each (by omega) hk2
          rw [bt, br_false]
          exact sealFuture_l k hk1 hk2 hp p cs sh cd sd k 0 (by omega) (by have := sd.un; omega) (fun j hj hji => by omega)
theorem sealFuture_true (a0 : Ty.D (.int .u8)) (f0 : Fits (.int .u8) a0) (a1 : Ty.D (.int .u8)) (f1 : Fits (.int .u8) a1) (l : Ty.D (.slc tKnow)) (fl : Fits (.slc tKnow) l) (s : Ty.D tState) (fs : Fits tState s) (d : Ty.D tDelta) (fd : Fits tDelta d) : ∃ k, law30_SealFuture.f k a0 a1 l s d = some true :=
  ⟨6000, sealFuture_at 6000 (by decide) (by decide) a0 f0 a1 f1 l fl s fs d fd⟩
end Go.Proofs.YtoikjekpckhgeaaGreat
end
section
/- The statement of the law SealFuture: for every input the law returns true, and its arguments read as they did. No conditions. -/
namespace Go.Proofs.YtoikjekpckhgeaaGreat.sealFutureDone
open Go.ChangeShapes Go.WideShapes Go.ChangeAt Go.RowKit
open Pal
set_option linter.unusedVariables false

theorem own : ownKnob Tryz.prog.godebug = none := by kernel_rfl
theorem laidOut : laidOutB Tryz.prog = true := by kernel_rfl
theorem ty0 : tyB Tryz.prog 40 5 (.int .u8) = true := by kernel_rfl
theorem ty1 : tyB Tryz.prog 40 5 (.int .u8) = true := by kernel_rfl
theorem ty2 : tyB Tryz.prog 40 77 (.slc tKnow) = true := by kernel_rfl
theorem ty3 : tyB Tryz.prog 40 39 tState = true := by kernel_rfl
theorem ty4 : tyB Tryz.prog 40 69 tDelta = true := by kernel_rfl

theorem walk (W : World) (v0 : Value) (x0 : Ty.D (.int .u8)) (h0 : TRep (gh0 W) W (.dat (.int .u8) x0) v0 []) (f0 : Fits (.int .u8) x0) (v1 : Value) (x1 : Ty.D (.int .u8)) (h1 : TRep (gh0 W) W (.dat (.int .u8) x1) v1 []) (f1 : Fits (.int .u8) x1) (v2 : Value) (x2 : Ty.D (.slc tKnow)) (h2 : TRep (gh0 W) W (.dat (.slc tKnow) x2) v2 []) (f2 : Fits (.slc tKnow) x2) (v3 : Value) (x3 : Ty.D tState) (h3 : TRep (gh0 W) W (.dat tState x3) v3 []) (f3 : Fits tState x3) (v4 : Value) (x4 : Ty.D tDelta) (h4 : TRep (gh0 W) W (.dat tDelta x4) v4 []) (f4 : Fits tDelta x4) :
    Calls Tryz.prog 10 #[v0, v1, v2, v3, v4] W fun e w' => e = .returned (.bool true) ∧ Below W.heap.size W w' := by
  obtain ⟨k, hk⟩ := sealFuture_true x0 f0 x1 f1 x2 f2 x3 f3 x4 f4
  exact law_calls' (args := [.dat (.int .u8) x0, .dat (.int .u8) x1, .dat (.slc tKnow) x2, .dat tState x3, .dat tDelta x4]) (argv := [v0, v1, v2, v3, v4]) (code := law30_SealFuture.body) (σ := law30_SealFuture.sg) (F := fun x => law30_SealFuture.f k x.1 x.2.1 x.2.2.1 x.2.2.2.1 x.2.2.2.2) (x := (x0, x1, x2, x3, x4)) (r := true) (law30_SealFuture.ok k) Tryz.func10 (by kernel_rfl) (by kernel_rfl) (by kernel_rfl) (by kernel_rfl) hk rfl rfl
    ⟨v0, _, [], [], rfl, rfl, h0, ⟨v1, _, [], [], rfl, rfl, h1, ⟨v2, _, [], [], rfl, rfl, h2, ⟨v3, _, [], [], rfl, rfl, h3, ⟨v4, _, [], [], rfl, rfl, h4, ⟨rfl, rfl⟩⟩⟩⟩⟩⟩

set_option maxRecDepth 100000 in
theorem lifted (os : Os) (started : os.Started) (H : Type) (enc : TypeId × Value → H) :
    ReturnsInHanded {} Tryz.checked os 10 .any (Rows.sealFutureSpec.pre6 enc Tryz.prog Tryz.f10 Rows.sealFutureRow.domain false) (Rows.sealFutureSpec.post enc Tryz.prog Tryz.f10 false true false false) := by
  refine returnsInHanded_of_change (C := Tryz.checked) own started (by kernel_rfl) Tryz.func10
    (ChangeSpec.witness6 (enc := enc) (C := Tryz.checked) false ⟨#[], #[.int .u8 0, .int .u8 0, .slice none 0 0, .agg #[.slice none 0 0, .slice none 0 0, .int .i64 0, .int .i64 0, .int .i64 0, .int .i64 0, .int .i64 0, .int .i64 0, .int .i64 0, .int .i64 0, .int .i64 0, .int .i64 0, .int .i64 0, .int .i64 0, .int .i64 0, .int .i64 0, .int .i64 0, .int .i64 0, .slice none 0 0, .int .i64 0, .int .i64 0, .int .i64 0, .int .i64 0, .int .i64 0, .int .i64 0, .int .i64 0, .int .i64 0, .int .i64 0, .int .i64 0, .int .i64 0, .int .i64 0, .int .i64 0, .int .i64 0, .int .i64 0, .int .i64 0, .slice none 0 0, .slice none 0 0, .slice none 0 0, .slice none 0 0, .slice none 0 0, .slice none 0 0, .slice none 0 0, .slice none 0 0, .slice none 0 0], .agg #[.slice none 0 0, .slice none 0 0, .slice none 0 0]], []⟩ 12 (by kernel_rfl) (by kernel_rfl) (by kernel_rfl) (by kernel_rfl)) ?_
  intro W base args ds gs before hval0 hW hcnd _
  have hval : ∀ (j : Nat) t v, Tryz.f10.params[j]? = some t → args[j]? = some v → Value.okWide Tryz.prog W .any base t v := hval0
  have hW' := hW
  obtain ⟨p, q, hA0, hV, rfl, hfz, hnd⟩ := hW
  have hA : DataW.TrodAll enc Tryz.prog W 0 (fun _ => true) true Tryz.f10.params.toList args.toList ds p := hA0
  rw [Tryz.params10] at hA hval
  obtain ⟨v0, vs0, d0, ds0, p0, q0, hargs, rfl, rfl, h0, r0⟩ := trodAll_cons hA
  obtain ⟨v1, vs1, d1, ds1, p1, q1, rfl, rfl, rfl, h1, r1⟩ := trodAll_cons r0
  obtain ⟨v2, vs2, d2, ds2, p2, q2, rfl, rfl, rfl, h2, r2⟩ := trodAll_cons r1
  obtain ⟨v3, vs3, d3, ds3, p3, q3, rfl, rfl, rfl, h3, r3⟩ := trodAll_cons r2
  obtain ⟨v4, vs4, d4, ds4, p4, q4, rfl, rfl, rfl, h4, r4⟩ := trodAll_cons r3
  obtain ⟨rfl, rfl, rfl⟩ := trodAll_nil r4
  obtain rfl : args = #[v0, v1, v2, v3, v4] := by cases args; simp_all
  obtain ⟨rfl, rfl⟩ := trodVars_none hV
  have k0 := h0
  have lt0 : ∀ x ∈ p0, x.block < W.heap.size := by obtain ⟨m, hm⟩ := k0; exact DataW.trod_lt m _ _ _ hm
  obtain ⟨x0, g0, f0⟩ := arg_open ty0 (hval 0 5 v0 rfl rfl) h0
  have k1 := h1
  have lt1 : ∀ x ∈ p1, x.block < W.heap.size := by obtain ⟨m, hm⟩ := k1; exact DataW.trod_lt m _ _ _ hm
  obtain ⟨x1, g1, f1⟩ := arg_open ty1 (hval 1 5 v1 rfl rfl) h1
  have k2 := h2
  have lt2 : ∀ x ∈ p2, x.block < W.heap.size := by obtain ⟨m, hm⟩ := k2; exact DataW.trod_lt m _ _ _ hm
  obtain ⟨x2, g2, f2⟩ := arg_open ty2 (hval 2 77 v2 rfl rfl) h2
  have k3 := h3
  have lt3 : ∀ x ∈ p3, x.block < W.heap.size := by obtain ⟨m, hm⟩ := k3; exact DataW.trod_lt m _ _ _ hm
  obtain ⟨x3, g3, f3⟩ := arg_open ty3 (hval 3 39 v3 rfl rfl) h3
  have k4 := h4
  have lt4 : ∀ x ∈ p4, x.block < W.heap.size := by obtain ⟨m, hm⟩ := k4; exact DataW.trod_lt m _ _ _ hm
  obtain ⟨x4, g4, f4⟩ := arg_open ty4 (hval 4 69 v4 rfl rfl) h4
  clear hA0 hval0
  refine (walk W v0 x0 g0 f0 v1 x1 g1 f1 v2 x2 g2 f2 v3 x3 g3 f3 v4 x4 g4 f4).mono fun e W' ⟨he, bel⟩ => ?_
  subst he
  exact ⟨_, rfl, _, _, _, [], _, [], hW', trodAll_mk1 (shut_bool Tryz.underlying4 _), (trodAll_cons_mk (Below.trod laidOut (by kernel_rfl) (of_decide_eq_true (by kernel_rfl)) k0 bel lt0) (trodAll_cons_mk (Below.trod laidOut (by kernel_rfl) (of_decide_eq_true (by kernel_rfl)) k1 bel lt1) (trodAll_cons_mk (Below.trod laidOut (by kernel_rfl) (of_decide_eq_true (by kernel_rfl)) k2 bel lt2) (trodAll_cons_mk (Below.trod laidOut (by kernel_rfl) (of_decide_eq_true (by kernel_rfl)) k3 bel lt3) (trodAll_cons_mk (Below.trod laidOut (by kernel_rfl) (of_decide_eq_true (by kernel_rfl)) k4 bel lt4) trodAll_mk0))))), rfl, bel.frame _, fun h => by cases h⟩

theorem over : Rows.sealFutureRow.holds Tryz.pinned (OpenSpec.ofChange Rows.sealFutureSpec) :=
  OpenClaim.holds_of_wide 10 Tryz.f10 rfl rfl rfl rfl rfl rfl rfl ⟨rfl, rfl, rfl, rfl, rfl⟩ rfl rfl rfl rfl rfl (by kernel_rfl) Tryz.func10 (by kernel_rfl)
    (of_decide_eq_true (by kernel_rfl)) (by unfold Func.isWrapper; first | (rw [if_pos (by decide +kernel)]; kernel_rfl) | (rw [if_neg (by decide +kernel)]; exact ⟨rfl, rfl⟩))
    (fun os started H enc _ => lifted os started H enc)

theorem proved : Rows.SealFutureSaid := over
#print axioms proved
end Go.Proofs.YtoikjekpckhgeaaGreat.sealFutureDone
end
