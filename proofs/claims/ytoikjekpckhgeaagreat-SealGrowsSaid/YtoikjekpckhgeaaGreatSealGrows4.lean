/- The statement of the law SealGrows: for every input the law returns true, and its arguments read as they did. No conditions. -/
import Derived.KernelRfl
import Derived.Test.YtoikjekpckhgeaaGreatRows
import Derived.WalkKit
import Derived.ProofKit
import Derived.OpenShut
import Derived.ShutString
import Derived.ChangeOld
import Derived.Below
import Derived.Test.YtoikjekpckhgeaaGreatFw1
import Derived.Test.YtoikjekpckhgeaaGreatFw2
import Derived.Test.YtoikjekpckhgeaaGreatFw3
import Derived.Test.YtoikjekpckhgeaaGreatSealGrows1
import Derived.Test.YtoikjekpckhgeaaGreatSealGrows2
import Derived.Test.YtoikjekpckhgeaaGreatSealGrows3
set_option linter.unusedVariables false
set_option linter.unusedSimpArgs false
set_option linter.unusedSectionVars false
section
/- Nobody knows of the others: nothing is final, nothing is turned. -/
set_option linter.unusedVariables false
set_option linter.unusedSimpArgs false
namespace Go.Proofs.YtoikjekpckhgeaaGreat
open Pal
theorem ready_nil (k : Nat) (s : Sta) {n : Nat} (hs : CanS s) (ls : LenS n s) (h3 : 3 ≤ k) (hn : n < k) (hk2 : k < 1000000) : seal_Ready_nil.f k s = some [] := by
  have lt := ls.tx
  have key : ∀ (q i : Nat), i ≤ s.1.length → s.1.length < q + i → seal_Ready_nil.l3 k q [] s.1 (ilen s.1) (i : Int) s = some [] := by
    intro q
    induction q with
    | zero => intro i h h'; omega
    | succ q ih =>
      intro i h h'
      rw [seal_Ready_nil.l3_eq, ilt_nat]
      by_cases hi : i < s.1.length
      · have e3 : iadd .i64 (i : Int) 1 = ((i + 1 : Nat) : Int) := iadd_nat (by omega)
        rw [decide_eq_true hi, br_true, inL_nat, decide_eq_true hi, br_true, natOf_nat, rd_at' (e := tTxn) hi, has_is k _ _ h3 (by have := ls.se; omega) hk2 hs.se, bnd_some, e3, peer_Peers_All_nil_seal_Ready_1.f_eq, bnd_some]
        have ih' := ih (i + 1) (by omega) (by omega)
        cases memB s.2.2.2.1 s.1[i].1 with
        | true => rw [show bnot true = false from rfl, br_false, ih']
        | false =>
          rw [show bnot false = true from rfl, br_true]
          show br false _ _ = _
          rw [br_false, ih']
      · rw [decide_eq_false hi, br_false]
  rw [seal_Ready_nil.f_eq]
  exact key k 0 (by omega) (by omega)
theorem final_nil (k : Nat) (s : Sta) {n : Nat} (hs : CanS s) (ls : LenS n s) (d : Dot) (h3 : 3 ≤ k) (hn : n < k) (hk2 : k < 1000000) : seal_Final_nil.f k s d = some false := by
  obtain ⟨r, hr, hri⟩ := find_is k s.1 d h3 (by have := ls.tx; omega) hk2 hs.tx
  rw [seal_Final_nil.f_eq, hr, bnd_some]
  cases ilt r 0 with
  | true => rfl
  | false =>
    rw [br_false, has_is k _ d h3 (by have := ls.se; omega) hk2 hs.se, bnd_some]
    cases memB s.2.2.2.1 d with
    | false => rfl
    | true =>
      rw [show bnot true = false from rfl, br_false, tget_is k _ d h3 (by have := ls.un; omega) hk2 hs.un, bnd_some, peer_Peers_Agrees_nil.f_eq, peer_Peers_All_nil_peer_Peers_Agrees_1.f_eq]
      rfl
theorem finals_nil (k : Nat) (s : Sta) {n : Nat} (hs : CanS s) (ls : LenS n s) (h3 : 3 ≤ k) (hn : n < k) (hk2 : k < 1000000) : seal_finals_nil.f k s = some ((), (([] : List (Dot × Bool)), ([] : List (Dot × Bool)))) := by
  have lt := ls.tx
  have key : ∀ (q i : Nat), i ≤ s.1.length → s.1.length < q + i → seal_finals_nil.l3 k q s.1 (ilen s.1) (i : Int) s [] [] = some ((), ([], [])) := by
    intro q
    induction q with
    | zero => intro i h h'; omega
    | succ q ih =>
      intro i h h'
      rw [seal_finals_nil.l3_eq, ilt_nat]
      by_cases hi : i < s.1.length
      · have e3 : iadd .i64 (i : Int) 1 = ((i + 1 : Nat) : Int) := iadd_nat (by omega)
        rw [decide_eq_true hi, br_true, inL_nat, decide_eq_true hi, br_true, natOf_nat, rd_at' (e := tTxn) hi, final_nil k s hs ls _ h3 hn hk2, bnd_some, show bnot false = true from rfl, br_true, e3]
        exact ih (i + 1) (by omega) (by omega)
      · rw [decide_eq_false hi, br_false]
  rw [seal_finals_nil.f_eq]
  exact key k 0 (by omega) (by omega)
section
variable (z1 : List Txn) (z2 : List (Dot × Int)) (z3 : List Int) (z4 : List Dot) (z5 : List Int) (z6 : List Dot) (z7 : List (List Dot)) (s : Sta)
theorem ncov_refs (k n4 n7 : Nat) (x29 : List Txn) (x30 x31 : Int) (x36 : List Op) (x37 x38 : Int) (l : List (Dot × Int)) (t : Txn) (hl : l.length < k) (hk2 : k < 1000000) :
    ∀ (q j : Nat) (cov : List ((Dot × Int) × Bool)), j ≤ l.length → l.length < q + j →
      ∃ cov', seal_Compact_nil.l10 k n4 n7 q x29 x30 x31 x36 x37 x38 l (ilen l) (j : Int) s z1 z2 z3 z4 z5 z6 z7 t [] cov [] = seal_Compact_nil.l7 k n4 n7 x29 x30 x31 x36 x37 (iadd .i64 x38 1) s z1 z2 z3 z4 z5 z6 z7 t [] cov' [] := by
  intro q
  induction q with
  | zero => intro j cov h h'; omega
  | succ q ih =>
    intro j cov h h'
    rw [seal_Compact_nil.l10_eq, ilt_nat]
    by_cases hj : j < l.length
    · have e3 : iadd .i64 (j : Int) 1 = ((j + 1 : Nat) : Int) := iadd_nat (by omega)
      rw [decide_eq_true hj, br_true, inL_nat, decide_eq_true hj, br_true, natOf_nat, e3, rd_at' (e := tUndo) hj]
      cases mget tUndo .bool cov l[j] with
      | true => rw [br_true]; exact ih (j + 1) _ (by omega) (by omega)
      | false => rw [br_false]; exact ih (j + 1) _ (by omega) (by omega)
    · rw [decide_eq_false hj, br_false]
      exact ⟨cov, rfl⟩
theorem ncov_ops (k n4 : Nat) (x29 : List Txn) (x30 x31 : Int) (l : List Op) (t : Txn) (hl : l.length < k) (hr : ∀ o ∈ l, o.2.2.2.2.length < k) (hk2 : k < 1000000) :
    ∀ (q j : Nat) (cov : List ((Dot × Int) × Bool)), j ≤ l.length → l.length < q + j →
      ∃ cov', seal_Compact_nil.l7 k n4 q x29 x30 x31 l (ilen l) (j : Int) s z1 z2 z3 z4 z5 z6 z7 t [] cov [] = seal_Compact_nil.l4 k n4 x29 x30 (iadd .i64 x31 1) s z1 z2 z3 z4 z5 z6 z7 [] cov' [] := by
  intro q
  induction q with
  | zero => intro j cov h h'; omega
  | succ q ih =>
    intro j cov h h'
    rw [seal_Compact_nil.l7_eq, ilt_nat]
    by_cases hj : j < l.length
    · have e3 : iadd .i64 (j : Int) 1 = ((j + 1 : Nat) : Int) := iadd_nat (by omega)
      rw [decide_eq_true hj, br_true, inL_nat, decide_eq_true hj, br_true, natOf_nat, rd_at' (e := tOp) hj]
      obtain ⟨c1, g1⟩ := ncov_refs z1 z2 z3 z4 z5 z6 z7 s k n4 q x29 x30 x31 l (ilen l) (j : Int) l[j].2.2.2.2 t (hr _ (List.getElem_mem hj)) hk2 k 0 cov (by omega) (by have := hr _ (List.getElem_mem hj); omega)
      rw [show ((0 : Nat) : Int) = 0 from rfl] at g1
      rw [g1, e3]
      exact ih (j + 1) c1 (by omega) (by omega)
    · rw [decide_eq_false hj, br_false]
      exact ⟨cov, rfl⟩
theorem ncov_txns (k : Nat) (hl : s.1.length < k) (ho : ∀ t ∈ s.1, t.2.2.2.2.length < k ∧ ∀ o ∈ t.2.2.2.2, o.2.2.2.2.length < k) (hk2 : k < 1000000) :
    ∀ (q i : Nat) (cov : List ((Dot × Int) × Bool)), i ≤ s.1.length → s.1.length < q + i →
      ∃ cov', seal_Compact_nil.l4 k q s.1 (ilen s.1) (i : Int) s z1 z2 z3 z4 z5 z6 z7 [] cov [] = seal_Compact_nil.l19 k k s.1 (ilen s.1) 0 z1 z2 z3 z4 z5 z6 z7 [] s.2 [] cov' [] := by
  intro q
  induction q with
  | zero => intro i cov h h'; omega
  | succ q ih =>
    intro i cov h h'
    rw [seal_Compact_nil.l4_eq, ilt_nat]
    by_cases hi : i < s.1.length
    · have e3 : iadd .i64 (i : Int) 1 = ((i + 1 : Nat) : Int) := iadd_nat (by omega)
      rw [decide_eq_true hi, br_true, inL_nat, decide_eq_true hi, br_true, natOf_nat, rd_at' (e := tTxn) hi]
      obtain ⟨o1, o2⟩ := ho _ (List.getElem_mem hi)
      obtain ⟨c1, g1⟩ := ncov_ops z1 z2 z3 z4 z5 z6 z7 s k q s.1 (ilen s.1) (i : Int) s.1[i].2.2.2.2 s.1[i] o1 o2 hk2 k 0 cov (by omega) (by omega)
      rw [show ((0 : Nat) : Int) = 0 from rfl] at g1
      rw [g1, e3]
      exact ih (i + 1) c1 (by omega) (by omega)
    · rw [decide_eq_false hi, br_false]
      exact ⟨cov, rfl⟩
theorem nturn_l (k n19 : Nat) (x66 : List Txn) (x67 x68 : Int) (out : List Txn) (b : List (Dot × Int) × (DSet × (DSet × List (List Dot)))) (d : Dot) (u1 u2 : Int) (thin : Bool) (cov : List ((Dot × Int) × Bool)) (l : List Op) (hN : l.length < 1000000) :
    ∀ (q i : Nat), i ≤ l.length → l.length < q + i →
      seal_Compact_nil.l23 k n19 q x66 x67 x68 (ilen l) (ilen l) (i : Int) z1 z2 z3 z4 z5 z6 z7 out b d u1 u2 thin (ilen l) [] cov l [] =
        br (room out [(d, (u1, (u2, (thin, l))))]) (seal_Compact_nil.l19 k n19 x66 x67 (iadd .i64 x68 1) z1 z2 z3 z4 z5 z6 z7 (app out [(d, (u1, (u2, (thin, l))))]) b [] cov []) none := by
  intro q
  induction q with
  | zero => intro i h h'; omega
  | succ q ih =>
    intro i h h'
    rw [seal_Compact_nil.l23_eq, ilt_nat]
    by_cases hi : i < l.length
    · have e3 : iadd .i64 (i : Int) 1 = ((i + 1 : Nat) : Int) := iadd_nat (by omega)
      have ih' := ih (i + 1) (by omega) (by omega)
      rw [decide_eq_true hi, br_true, show inI (i : Int) (ilen l) = true by simp [inI, ilen]; omega, br_true, inL_nat, decide_eq_true hi, br_true, natOf_nat, rd_at' (e := tOp) hi, e3, gone_is, mget_nil, ih']
      generalize ieq l[i].1 1 = b1
      generalize ieq l[i].1 2 = b2
      generalize ieq l[i].1 3 = b3
      generalize decide (l[i] = zeroOp) = b6
      cases b1 <;> cases b2 <;> cases b3 <;> cases b6 <;> rfl
    · rw [decide_eq_false hi, br_false]
      rw [show ieq (ilen l) (ilen l) = true by rw [ieq_dec]; exact decide_eq_true rfl]
      rfl
theorem ncomp_l (k : Nat) (l : List Txn) (cov : List ((Dot × Int) × Bool)) (b : List (Dot × Int) × (DSet × (DSet × List (List Dot)))) (hl : l.length < 1000000) (ho : ∀ t ∈ l, t.2.2.2.2.length < k) (hk2 : k < 1000000) :
    ∀ (q i : Nat) (out : List Txn), i ≤ l.length → l.length < q + i → out.length = i →
      seal_Compact_nil.l19 k q l (ilen l) (i : Int) z1 z2 z3 z4 z5 z6 z7 out b [] cov [] = some (out ++ l.drop i, b) := by
  intro q
  induction q with
  | zero => intro i out h h' _; omega
  | succ q ih =>
    intro i out h h' hout
    rw [seal_Compact_nil.l19_eq, ilt_nat]
    by_cases hi : i < l.length
    · have e3 : iadd .i64 (i : Int) 1 = ((i + 1 : Nat) : Int) := iadd_nat (by omega)
      have hot := ho _ (List.getElem_mem hi)
      rw [decide_eq_true hi, br_true, inL_nat, decide_eq_true hi, br_true, natOf_nat, rd_at' (e := tTxn) hi]
      rw [show room ([] : List Int) l[i].2.2.2.2 = true from room_le (by simp; omega), br_true]
      have h1 := nturn_l z1 z2 z3 z4 z5 z6 z7 k q l (ilen l) (i : Int) out b l[i].1 l[i].2.1 l[i].2.2.1 l[i].2.2.2.1 cov l[i].2.2.2.2 (by omega) k 0 (by omega) (by omega)
      rw [show ((0 : Nat) : Int) = 0 from rfl] at h1
      rw [h1, room_le (by simp; omega), br_true, e3]
      have h2 := ih (i + 1) (out ++ [l[i]]) (by omega) (by omega) (by simp [hout])
      rw [show app out [(l[i].1, (l[i].2.1, (l[i].2.2.1, (l[i].2.2.2.1, l[i].2.2.2.2))))] = out ++ [l[i]] from rfl, h2, List.drop_eq_getElem_cons hi, List.append_assoc]; rfl
    · rw [decide_eq_false hi, br_false, List.drop_eq_nil_of_le (by omega), List.append_nil]
end
theorem compact_nil (k : Nat) (s : Sta) {n : Nat} (hs : CanS s) (ls : LenS n s) (ho : ∀ t ∈ s.1, t.2.2.2.2.length < k ∧ ∀ o ∈ t.2.2.2.2, o.2.2.2.2.length < k) (h3 : 3 ≤ k) (hn : n < k) (hk2 : k < 1000000) : seal_Compact_nil.f k s = some s := by
  have lt := ls.tx
  rw [seal_Compact_nil.f_eq, finals_nil k s hs ls h3 hn hk2, bnd_some]
  obtain ⟨cov, g4⟩ := ncov_txns [] [] (zarr 16 0) [] (zarr 16 0) [] (zarr 8 []) s k (by omega) ho hk2 k 0 [] (by omega) (by omega)
  have h2 := ncomp_l [] [] (zarr 16 0) [] (zarr 16 0) [] (zarr 8 []) k s.1 cov s.2 (by omega) (fun t ht => (ho t ht).1) hk2 k 0 [] (by omega) (by omega) rfl
  rw [show ((0 : Nat) : Int) = 0 from rfl] at g4 h2
  rw [List.drop_zero, List.nil_append] at h2
  exact g4.trans h2
end Go.Proofs.YtoikjekpckhgeaaGreat
end
section
/- Chapter 30's example: it is as it is told. -/
namespace Go.Proofs.YtoikjekpckhgeaaGreat
open Pal
set_option maxRecDepth 100000 in
theorem law30_awake.is (k : Nat) : law30_awake.f (k + 40) = some true := by kernel_rfl
theorem awake30 {k : Nat} (h : 40 ≤ k) : law30_awake.f k = some true := by
  obtain ⟨q, rfl⟩ : ∃ q, k = q + 40 := ⟨k - 40, by omega⟩
  exact law30_awake.is q
end Go.Proofs.YtoikjekpckhgeaaGreat
end
section
/- The plain law of chapter 30: SealGrows. -/
set_option linter.unusedVariables false
set_option linter.unusedSimpArgs false
namespace Go.Proofs.YtoikjekpckhgeaaGreat
open Pal
theorem grows_end30 (k : Nat) (hk1 : 5000 < k) (hk2 : k < 1000000) {m : Nat} {p' : Peers} (hp' : OKP m p') (hm : m < k) (q : Peers) {s : Sta} (cs : CanS s) (sh : ShortS s) (f3 : s.2.2.2.2.length = 8) (a : Know) (ca : CanK a) (la : LenK 100 a) (x : List Dot) (hx : x.length ≤ (readyP p' s).length) (b : List Dot) (hb : b.length ≤ 100)
    (hfin : ∀ d ∈ b, getU a.2.1 d ≤ getU s.2.1 d → finalP p' s d = true) :
    ∀ (n i : Nat), i ≤ b.length → b.length < n + i → law30_SealGrows.l13 k n x b (i : Int) s a p' q = some true
  | 0, i, h, h' => by omega
  | n + 1, i, h, h' => by
    have aw : law30_awake.f k = some true := awake30 (by omega)
    have bt : bnot true = false := rfl
    have ls := sh.len
    rw [law30_SealGrows.l13_eq, ilt_nat]
    by_cases hi : i < b.length
    · have e3 : iadd .i64 (i : Int) 1 = ((i + 1 : Nat) : Int) := iadd_nat (by omega)
      have ih := grows_end30 k hk1 hk2 hp' hm q cs sh f3 a ca la x hx b hb hfin n (i + 1) (by omega) (by omega)
      rw [decide_eq_true hi, br_true, inL_nat, decide_eq_true hi, br_true, natOf_nat, rd_at' (e := tDot) hi, rget_is k _ _ (by have := la.un; omega) hk2, bnd_some, br_true, rget_is k _ _ (by have := ls.un; omega) hk2, bnd_some, e3]
      cases hle : ile (getU a.2.1 b[i]) (getU s.2.1 b[i]) with
      | false => rw [br_false]; exact ih
      | true =>
        have hle' : getU a.2.1 b[i] ≤ getU s.2.1 b[i] := of_decide_eq_true hle
        rw [br_true, br_true, final_is k hp' s cs ls _ (by omega) hm (by omega) hk2, bnd_some, hfin _ (List.getElem_mem hi) hle']
        show br (bnot true) _ _ = _
        rw [bt, br_false]
        exact ih
    · have e0 : ieq (ilen ([] : List Dot)) 0 = true := rfl
      obtain ⟨b2, q1, q2⟩ := rsameS_is k s s ls (fun t ht => (sh.each t ht).lenT (by omega)) f3 f3 (by omega) (by omega) hk2
      have e2 : b2 = true := q2.2 rfl
      subst e2
      rw [decide_eq_false hi, br_false, ready_is k hp' s cs ls (by omega) hm (by omega) hk2, bnd_some]
      rw [show ile (ilen x) (ilen (readyP p' s)) = true from decide_eq_true (by unfold ilen; omega), br_true, ready_nil k s cs ls (by omega) (by omega) hk2, bnd_some, e0, br_true, compact_nil k s cs ls (lens_of sh.each (by omega)) (by omega) (by omega) hk2, bnd_some, q1, bnd_some, br_true, aw]; rfl
theorem grows_l30 (k : Nat) (hk1 : 5000 < k) (hk2 : k < 1000000) {p : Peers} (hp : OKP 1600 p) (q : Peers) {s : Sta} (cs : CanS s) (sh : ShortS s) (f3 : s.2.2.2.2.length = 8) (j : Int) (a : Know) (ca : CanK a) (la : LenK 100 a) (v1 : a.1.1.length = 16) (v2 : a.2.2.1.length = 16) :
    ∀ (n i : Nat) (b : List Dot), i ≤ s.1.length → s.1.length < n + i → b.length ≤ i → (∀ d ∈ b, finalP p s d = true) → law30_SealGrows.l7 k n j (readyP p s) b (i : Int) s a p q = some true
  | 0, i, b, h, h', _, _ => by omega
  | n + 1, i, b, h, h', hb, hf => by
    have ls := sh.len
    have lt := ls.tx
    rw [law30_SealGrows.l7_eq, ilt_nat]
    by_cases hi : i < s.1.length
    · have e3 : iadd .i64 (i : Int) 1 = ((i + 1 : Nat) : Int) := iadd_nat (by omega)
      rw [decide_eq_true hi, br_true, inL_nat, decide_eq_true hi, br_true, natOf_nat, rd_at' (e := tTxn) hi, final_is k hp s cs ls _ (by omega) (by omega) (by omega) hk2, bnd_some, e3]
      cases hfi : finalP p s s.1[i].1 with
      | false =>
        show br false _ _ = _
        rw [br_false]
        exact grows_l30 k hk1 hk2 hp q cs sh f3 j a ca la v1 v2 n (i + 1) b (by omega) (by omega) (by omega) hf
      | true =>
        show br true _ _ = _
        rw [br_true, br_true, room1 (show b.length < 4000000 by omega), br_true]
        exact grows_l30 k hk1 hk2 hp q cs sh f3 j a ca la v1 v2 n (i + 1) (app b (s.1[i].1 :: [])) (by omega) (by omega) (by simp [app]; omega) (fun d hd => by
          simp only [app, List.mem_append, List.mem_singleton] at hd
          rcases hd with hd | hd
          · exact hf d hd
          · rw [hd]; exact hfi)
    · rw [decide_eq_false hi, br_false]
      obtain ⟨e, p', h1, _, h3, h4⟩ := heard_both k hp j a v1 v2 la (by omega) hk1 hk2
      rw [h1, bnd_some]
      show law30_SealGrows.l13 k k (readyP p s) b 0 s a p' q = some true
      rcases h4 with ⟨ho, _, _, rfl⟩ | ⟨_, rfl⟩
      · obtain ⟨_, _, _, hl⟩ := other_spec hp ho
        have h16 : natOf j < 16 := by rw [hp.len] at hl; exact hl
        exact grows_end30 k hk1 hk2 h3 (by omega) q cs sh f3 a ca la _ (hear_ready hp h16 ca s) b (by omega) (fun d hd hle => hear_final hp h16 ca (hf d hd) hle) k 0 (by omega) (by omega)
      · exact grows_end30 k hk1 hk2 h3 (by omega) q cs sh f3 a ca la _ (Nat.le_refl _) b (by omega) (fun d hd _ => hf d hd) k 0 (by omega) (by omega)
theorem sealGrows_at (k : Nat) (hk1 : 5000 < k) (hk2 : k < 1000000) (a0 : Ty.D (.int .u8)) (f0 : Fits (.int .u8) a0) (a1 : Ty.D (.int .u8)) (f1 : Fits (.int .u8) a1) (l : Ty.D (.slc tKnow)) (fl : Fits (.slc tKnow) l) (s : Ty.D tState) (fs : Fits tState s) (j : Ty.D (.int .i64)) (a : Ty.D tKnow) (fa : Fits tKnow a) : law30_SealGrows.f k a0 a1 l s j a = some true := by
  have aw : law30_awake.f k = some true := awake30 (by omega)
  have bt : bnot true = false := rfl
  obtain ⟨b, p, g1, hp⟩ := begun30_is k hk1 hk2 a0 a1 (u8_rng30 f0) (u8_rng30 f1) l fl.2
  rw [law30_SealGrows.f_eq, g1, aw]
  simp only [bnd_some]
  cases b with
  | false => rfl
  | true =>
    rw [bt, br_false]
    obtain ⟨c, h1, h2⟩ := goodS_is k s fs hk1 hk2
    rw [h1, bnd_some]
    cases c with
    | false => rfl
    | true =>
      obtain ⟨cs, sh, rs⟩ := h2 rfl
      have ls := sh.len
      obtain ⟨e, h3, h4⟩ := goodK_is k a fa hk1 hk2
      rw [bt, br_false, h3, bnd_some]
      cases e with
      | false => rfl
      | true =>
        obtain ⟨ca, la⟩ := h4 rfl
        rw [bt, br_false, ready_is k hp s cs ls (by omega) (by omega) (by omega) hk2, bnd_some]
        exact grows_l30 k hk1 hk2 hp p cs sh fs.2.2.2.2.1 j a ca la fa.1.1.1 fa.2.2.1.1 k 0 [] (by omega) (by have := ls.tx; omega) (Nat.le_refl _) (fun d hd => by cases hd)
theorem sealGrows_true (a0 : Ty.D (.int .u8)) (f0 : Fits (.int .u8) a0) (a1 : Ty.D (.int .u8)) (f1 : Fits (.int .u8) a1) (l : Ty.D (.slc tKnow)) (fl : Fits (.slc tKnow) l) (s : Ty.D tState) (fs : Fits tState s) (j : Ty.D (.int .i64)) (_ : Fits (.int .i64) j) (a : Ty.D tKnow) (fa : Fits tKnow a) : ∃ k, law30_SealGrows.f k a0 a1 l s j a = some true :=
  ⟨6000, sealGrows_at 6000 (by decide) (by decide) a0 f0 a1 f1 l fl s fs j a fa⟩
end Go.Proofs.YtoikjekpckhgeaaGreat
end
section
/- The statement of the law SealGrows: for every input the law returns true, and its arguments read as they did. No conditions. -/
namespace Go.Proofs.YtoikjekpckhgeaaGreat.sealGrowsDone
open Go.ChangeShapes Go.WideShapes Go.ChangeAt Go.RowKit
open Pal
set_option linter.unusedVariables false

theorem own : ownKnob Tryz.prog.godebug = none := by kernel_rfl
theorem laidOut : laidOutB Tryz.prog = true := by kernel_rfl
theorem ty0 : tyB Tryz.prog 40 5 (.int .u8) = true := by kernel_rfl
theorem ty1 : tyB Tryz.prog 40 5 (.int .u8) = true := by kernel_rfl
theorem ty2 : tyB Tryz.prog 40 77 (.slc tKnow) = true := by kernel_rfl
theorem ty3 : tyB Tryz.prog 40 39 tState = true := by kernel_rfl
theorem ty4 : tyB Tryz.prog 40 3 (.int .i64) = true := by kernel_rfl
theorem ty5 : tyB Tryz.prog 40 35 tKnow = true := by kernel_rfl

theorem walk (W : World) (v0 : Value) (x0 : Ty.D (.int .u8)) (h0 : TRep (gh0 W) W (.dat (.int .u8) x0) v0 []) (f0 : Fits (.int .u8) x0) (v1 : Value) (x1 : Ty.D (.int .u8)) (h1 : TRep (gh0 W) W (.dat (.int .u8) x1) v1 []) (f1 : Fits (.int .u8) x1) (v2 : Value) (x2 : Ty.D (.slc tKnow)) (h2 : TRep (gh0 W) W (.dat (.slc tKnow) x2) v2 []) (f2 : Fits (.slc tKnow) x2) (v3 : Value) (x3 : Ty.D tState) (h3 : TRep (gh0 W) W (.dat tState x3) v3 []) (f3 : Fits tState x3) (v4 : Value) (x4 : Ty.D (.int .i64)) (h4 : TRep (gh0 W) W (.dat (.int .i64) x4) v4 []) (f4 : Fits (.int .i64) x4) (v5 : Value) (x5 : Ty.D tKnow) (h5 : TRep (gh0 W) W (.dat tKnow x5) v5 []) (f5 : Fits tKnow x5) :
    Calls Tryz.prog 9 #[v0, v1, v2, v3, v4, v5] W fun e w' => e = .returned (.bool true) ∧ Below W.heap.size W w' := by
  obtain ⟨k, hk⟩ := sealGrows_true x0 f0 x1 f1 x2 f2 x3 f3 x4 f4 x5 f5
  exact law_calls' (args := [.dat (.int .u8) x0, .dat (.int .u8) x1, .dat (.slc tKnow) x2, .dat tState x3, .dat (.int .i64) x4, .dat tKnow x5]) (argv := [v0, v1, v2, v3, v4, v5]) (code := law30_SealGrows.body) (σ := law30_SealGrows.sg) (F := fun x => law30_SealGrows.f k x.1 x.2.1 x.2.2.1 x.2.2.2.1 x.2.2.2.2.1 x.2.2.2.2.2) (x := (x0, x1, x2, x3, x4, x5)) (r := true) (law30_SealGrows.ok k) Tryz.func9 (by kernel_rfl) (by kernel_rfl) (by kernel_rfl) (by kernel_rfl) hk rfl rfl
    ⟨v0, _, [], [], rfl, rfl, h0, ⟨v1, _, [], [], rfl, rfl, h1, ⟨v2, _, [], [], rfl, rfl, h2, ⟨v3, _, [], [], rfl, rfl, h3, ⟨v4, _, [], [], rfl, rfl, h4, ⟨v5, _, [], [], rfl, rfl, h5, ⟨rfl, rfl⟩⟩⟩⟩⟩⟩⟩

set_option maxRecDepth 100000 in
theorem lifted (os : Os) (started : os.Started) (H : Type) (enc : TypeId × Value → H) :
    ReturnsInHanded {} Tryz.checked os 9 .any (Rows.sealGrowsSpec.pre6 enc Tryz.prog Tryz.f9 Rows.sealGrowsRow.domain false) (Rows.sealGrowsSpec.post enc Tryz.prog Tryz.f9 false true false false) := by
  refine returnsInHanded_of_change (C := Tryz.checked) own started (by kernel_rfl) Tryz.func9
    (ChangeSpec.witness6 (enc := enc) (C := Tryz.checked) false ⟨#[], #[.int .u8 0, .int .u8 0, .slice none 0 0, .agg #[.slice none 0 0, .slice none 0 0, .int .i64 0, .int .i64 0, .int .i64 0, .int .i64 0, .int .i64 0, .int .i64 0, .int .i64 0, .int .i64 0, .int .i64 0, .int .i64 0, .int .i64 0, .int .i64 0, .int .i64 0, .int .i64 0, .int .i64 0, .int .i64 0, .slice none 0 0, .int .i64 0, .int .i64 0, .int .i64 0, .int .i64 0, .int .i64 0, .int .i64 0, .int .i64 0, .int .i64 0, .int .i64 0, .int .i64 0, .int .i64 0, .int .i64 0, .int .i64 0, .int .i64 0, .int .i64 0, .int .i64 0, .slice none 0 0, .slice none 0 0, .slice none 0 0, .slice none 0 0, .slice none 0 0, .slice none 0 0, .slice none 0 0, .slice none 0 0, .slice none 0 0], .int .i64 0, .agg #[.int .i64 0, .int .i64 0, .int .i64 0, .int .i64 0, .int .i64 0, .int .i64 0, .int .i64 0, .int .i64 0, .int .i64 0, .int .i64 0, .int .i64 0, .int .i64 0, .int .i64 0, .int .i64 0, .int .i64 0, .int .i64 0, .slice none 0 0, .slice none 0 0, .int .i64 0, .int .i64 0, .int .i64 0, .int .i64 0, .int .i64 0, .int .i64 0, .int .i64 0, .int .i64 0, .int .i64 0, .int .i64 0, .int .i64 0, .int .i64 0, .int .i64 0, .int .i64 0, .int .i64 0, .int .i64 0, .slice none 0 0]], []⟩ 12 (by kernel_rfl) (by kernel_rfl) (by kernel_rfl) (by kernel_rfl)) ?_
  intro W base args ds gs before hval0 hW hcnd _
  have hval : ∀ (j : Nat) t v, Tryz.f9.params[j]? = some t → args[j]? = some v → Value.okWide Tryz.prog W .any base t v := hval0
  have hW' := hW
  obtain ⟨p, q, hA0, hV, rfl, hfz, hnd⟩ := hW
  have hA : DataW.TrodAll enc Tryz.prog W 0 (fun _ => true) true Tryz.f9.params.toList args.toList ds p := hA0
  rw [Tryz.params9] at hA hval
  obtain ⟨v0, vs0, d0, ds0, p0, q0, hargs, rfl, rfl, h0, r0⟩ := trodAll_cons hA
  obtain ⟨v1, vs1, d1, ds1, p1, q1, rfl, rfl, rfl, h1, r1⟩ := trodAll_cons r0
  obtain ⟨v2, vs2, d2, ds2, p2, q2, rfl, rfl, rfl, h2, r2⟩ := trodAll_cons r1
  obtain ⟨v3, vs3, d3, ds3, p3, q3, rfl, rfl, rfl, h3, r3⟩ := trodAll_cons r2
  obtain ⟨v4, vs4, d4, ds4, p4, q4, rfl, rfl, rfl, h4, r4⟩ := trodAll_cons r3
  obtain ⟨v5, vs5, d5, ds5, p5, q5, rfl, rfl, rfl, h5, r5⟩ := trodAll_cons r4
  obtain ⟨rfl, rfl, rfl⟩ := trodAll_nil r5
  obtain rfl : args = #[v0, v1, v2, v3, v4, v5] := by cases args; simp_all
  obtain ⟨rfl, rfl⟩ := trodVars_none hV
  have k0 := h0
  have lt0 : ∀ x ∈ p0, x.block < W.heap.size := by obtain ⟨m, hm⟩ := k0; exact DataW.trod_lt m _ _ _ hm
  obtain ⟨x0, g0, f0⟩ := arg_open ty0 (hval 0 5 v0 rfl rfl) h0
  have k1 := h1
  have lt1 : ∀ x ∈ p1, x.block < W.heap.size := by obtain ⟨m, hm⟩ := k1; exact DataW.trod_lt m _ _ _ hm
  obtain ⟨x1, g1, f1⟩ := arg_open ty1 (hval 1 5 v1 rfl rfl) h1
  have k2 := h2
  have lt2 : ∀ x ∈ p2, x.block < W.heap.size := by obtain ⟨m, hm⟩ := k2; exact DataW.trod_lt m _ _ _ hm
  obtain ⟨x2, g2, f2⟩ := arg_open ty2 (hval 2 77 v2 rfl rfl) h2
  have k3 := h3
  have lt3 : ∀ x ∈ p3, x.block < W.heap.size := by obtain ⟨m, hm⟩ := k3; exact DataW.trod_lt m _ _ _ hm
  obtain ⟨x3, g3, f3⟩ := arg_open ty3 (hval 3 39 v3 rfl rfl) h3
  have k4 := h4
  have lt4 : ∀ x ∈ p4, x.block < W.heap.size := by obtain ⟨m, hm⟩ := k4; exact DataW.trod_lt m _ _ _ hm
  obtain ⟨x4, g4, f4⟩ := arg_open ty4 (hval 4 3 v4 rfl rfl) h4
  have k5 := h5
  have lt5 : ∀ x ∈ p5, x.block < W.heap.size := by obtain ⟨m, hm⟩ := k5; exact DataW.trod_lt m _ _ _ hm
  obtain ⟨x5, g5, f5⟩ := arg_open ty5 (hval 5 35 v5 rfl rfl) h5
  clear hA0 hval0
  refine (walk W v0 x0 g0 f0 v1 x1 g1 f1 v2 x2 g2 f2 v3 x3 g3 f3 v4 x4 g4 f4 v5 x5 g5 f5).mono fun e W' ⟨he, bel⟩ => ?_
  subst he
  exact ⟨_, rfl, _, _, _, [], _, [], hW', trodAll_mk1 (shut_bool Tryz.underlying4 _), (trodAll_cons_mk (Below.trod laidOut (by kernel_rfl) (of_decide_eq_true (by kernel_rfl)) k0 bel lt0) (trodAll_cons_mk (Below.trod laidOut (by kernel_rfl) (of_decide_eq_true (by kernel_rfl)) k1 bel lt1) (trodAll_cons_mk (Below.trod laidOut (by kernel_rfl) (of_decide_eq_true (by kernel_rfl)) k2 bel lt2) (trodAll_cons_mk (Below.trod laidOut (by kernel_rfl) (of_decide_eq_true (by kernel_rfl)) k3 bel lt3) (trodAll_cons_mk (Below.trod laidOut (by kernel_rfl) (of_decide_eq_true (by kernel_rfl)) k4 bel lt4) (trodAll_cons_mk (Below.trod laidOut (by kernel_rfl) (of_decide_eq_true (by kernel_rfl)) k5 bel lt5) trodAll_mk0)))))), rfl, bel.frame _, fun h => by cases h⟩

theorem over : Rows.sealGrowsRow.holds Tryz.pinned (OpenSpec.ofChange Rows.sealGrowsSpec) :=
  OpenClaim.holds_of_wide 9 Tryz.f9 rfl rfl rfl rfl rfl rfl rfl ⟨rfl, rfl, rfl, rfl, rfl⟩ rfl rfl rfl rfl rfl (by kernel_rfl) Tryz.func9 (by kernel_rfl)
    (of_decide_eq_true (by kernel_rfl)) (by unfold Func.isWrapper; first | (rw [if_pos (by decide +kernel)]; kernel_rfl) | (rw [if_neg (by decide +kernel)]; exact ⟨rfl, rfl⟩))
    (fun os started H enc _ => lifted os started H enc)

theorem proved : Rows.SealGrowsSaid := over
#print axioms proved
end Go.Proofs.YtoikjekpckhgeaaGreat.sealGrowsDone
end
