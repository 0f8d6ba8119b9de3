/- Regions whose order is free: what the steps give in the text's order. -/
import Derived.Test.YtennedlpmacicaaNat
namespace Go.Proofs.Ytennedlpmacicaa.Pal
open Go
variable {P : Program} {X Y : Nat → Nat → Prop} {G0 G G' : Gh} {w0 w w' : World} {s : St} {a : Act} {c : Cx} {Q : Exit → Act → World → Prop}

theorem opd_rdL (s : St) (e : Option Ty) (x : Operand) : opd e s x = rdL (lk s.env) e x := by cases x <;> rfl
theorem rdL_of (s : St) : (fun e x => opd e s x) = rdL (lk s.env) := by funext e x; exact opd_rdL s e x
theorem stepF_nat {α : Type} (hC : ∀ f e, lkN c.fns f = some e → CallOK P f e) (mv : Bool) (o : Oper) (L : Nat → Option V) (m : List (Nat × V)) (K : V → Option α) : stepF c mv o L m K = (stepF c mv o L m some).bind K := by
  unfold stepF
  split
  · refine bind_nat fun a => ?_
    split
    · refine bind_nat fun b => ?_
      rw [cond_bind]; congr 1
      cases he : lkN c.fns _ with
      | none => rfl
      | some e =>
        simp only [Option.bind_some]
        rw [(hC _ e he).nat, (hC _ e he).nat V]
        refine bind_nat fun p => ?_
        rw [cond_bind]; rfl
    · rfl
  · split
    · refine bind_nat fun a => bind_nat fun b => ?_
      split
      · rw [cond_bind]; congr 1
        refine bind_nat fun d => ?_
        rw [br_bind]; rfl
      · rfl
    · rfl
  · refine bind_nat fun a => ?_
    split
    · refine bind_nat fun b => ?_
      rw [cond_bind]; congr 1
      exact bind_nat fun d => rfl
    · rfl
  · exact valO_nat o _ m K
def updL (L : Nat → Option V) (d : Option Nat) (x : Option V) : Nat → Option V := fun t => if d = some t then x else L t
/-- What a step gives, or that it is left out. -/
def Gives (c : Cx) (ops : Array Oper) (mvs : List Nat) (m : List (Nat × V)) (i : Nat) (o : Oper) (L : Nat → Option V) (x : V × Bool) : Prop :=
  match o.guard with
  | none => x.2 = true ∧ stepF c (memN i mvs) o L m some = some x.1 ∧ notL x.1 = true
  | some (j, want) => ∃ g gv, (ops[j]?).bind (·.dst) = some g ∧ L g = some gv ∧ ((gv = .dat .bool want ∧ x.2 = true ∧ stepF c (memN i mvs) o L m some = some x.1 ∧ notL x.1 = true) ∨ ((gv = .dat .bool (!want) ∨ gv = .unit) ∧ x = (.unit, false)))
def afterL (L : Nat → Option V) (mv : Bool) (o : Oper) (x : V × Bool) : Nat → Option V := updL (cutL L (if x.2 then consO mv o else none)) o.dst (some x.1)
def TraceL (c : Cx) (ops : Array Oper) (mvs : List Nat) (m : List (Nat × V)) : Nat → (Nat → Option V) → List (V × Bool) → (Nat → Option V) → Prop
  | _, L, [], L' => L' = L
  | i, L, x :: R, L' => ∃ o, ops[i]? = some o ∧ Gives c ops mvs m i o L x ∧ TraceL c ops mvs m (i + 1) (afterL L (memN i mvs) o x) R L'
theorem rmW_noLent : ∀ (env : List (Nat × V)) (d : Nat), noLent env = true → rmW env d = rm env d
  | [], _, _ => rfl
  | (k, v) :: r, d, h => by
    simp only [noLent, Bool.and_eq_true] at h
    have ih := rmW_noLent r d h.2
    cases v with
    | lent t => cases h.1
    | _ => simp only [rmW, rm, ih, Bool.or_false]
theorem noLent_rm : ∀ (env : List (Nat × V)) (d : Nat), noLent env = true → noLent (rm env d) = true
  | [], _, _ => rfl
  | (k, v) :: r, d, h => by
    have h2 := h
    simp only [noLent, Bool.and_eq_true] at h
    rw [rm_cons]
    split
    · exact noLent_rm r d h.2
    · simp only [noLent, Bool.and_eq_true]; exact ⟨h.1, noLent_rm r d h.2⟩
theorem lk_rm_same (d : Nat) : ∀ env : List (Nat × V), lk (rm env d) d = none
  | [] => rfl
  | (k, v) :: r => by
    rw [rm_cons]
    split
    · exact lk_rm_same d r
    · rename_i e; rw [lk_cons, if_neg e, lk_rm_same d r]
theorem lk_set {env : List (Nat × V)} {d : Nat} {v : V} (h : noLent env = true) : lk ((d, v) :: rmW env d) = updL (lk env) (some d) (some v) := by
  funext t
  rw [lk_cons, rmW_noLent env d h]
  simp only [updL, Option.some.injEq]
  split
  · rfl
  · rename_i e; exact lk_rm_other e env
theorem lk_rmW {env : List (Nat × V)} {d : Nat} (h : noLent env = true) : lk (rmW env d) = updL (lk env) (some d) none := by
  funext t
  rw [rmW_noLent env d h]
  simp only [updL, Option.some.injEq]
  split
  · rename_i e; subst e; exact lk_rm_same d env
  · rename_i e; exact lk_rm_other e env
theorem noLent_set {env : List (Nat × V)} {d : Nat} {v : V} (h : noLent env = true) (hv : notL v = true) : noLent ((d, v) :: rmW env d) = true := by
  rw [rmW_noLent env d h]
  simp only [noLent, Bool.and_eq_true]
  refine ⟨?_, noLent_rm env d h⟩
  cases v <;> first | rfl | (simp [notL] at hv)
theorem cutL_eq (L : Nat → Option V) (t u : Nat) : cutL L (some t) u = if t = u then none else L u := by
  simp only [cutL]
  by_cases h : t = u
  · subst h; simp
  · have : Nat.beq t u = false := by rw [Bool.eq_false_iff]; intro e; exact h (Nat.eq_of_beq_eq_true e)
    simp [h, this]
theorem lk_rmO (env : List (Nat × V)) (d : Option Nat) : lk (rmO env d) = cutL (lk env) d := by
  cases d with
  | none => rfl
  | some t =>
    funext u
    rw [cutL_eq]
    split
    · rename_i e; subst e; exact lk_rm_same t env
    · rename_i e; exact lk_rm_other e env
theorem noLent_rmO {env : List (Nat × V)} (d : Option Nat) (h : noLent env = true) : noLent (rmO env d) = true := by
  cases d with
  | none => exact h
  | some t => exact noLent_rm env t h
theorem updL_none (L : Nat → Option V) (x : Option V) : updL L none x = L := by funext t; simp [updL]
theorem updL_same {L : Nat → Option V} {g : Nat} {v : V} (h : L g = some v) : updL L (some g) (some v) = L := by
  funext t
  simp only [updL, Option.some.injEq]
  split
  · rename_i e; subst e; exact h.symm
  · rfl
/-- What the run in the text's order says. -/
theorem runQ_trace {α : Type} {ops : Array Oper} {mvs : List Nat} {K : List Oper → St → Option α} {res : α} (hC : ∀ f e, lkN c.fns f = some e → CallOK P f e) :
    ∀ (k : Nat) (r : List Oper) (i : Nat) (s : St), ops.toList.drop i = r → runQ c ops mvs i k r s K = some res → noLent s.env = true →
      ∃ R s1, R.length = min k r.length ∧ K (r.drop k) s1 = some res ∧ s1.mem = s.mem ∧ noLent s1.env = true ∧ TraceL c ops mvs s.mem i (lk s.env) R (lk s1.env)
  | 0, r, i, s, hr, h, hn => ⟨[], s, by simp, by simpa [runQ] using h, rfl, hn, rfl⟩
  | k + 1, [], i, s, hr, h, hn => ⟨[], s, by simp, by simpa [runQ] using h, rfl, hn, rfl⟩
  | k + 1, o :: r, i, s, hr, h, hn => by
    have hi : ops[i]? = some o := by
      rw [← Array.getElem?_toList]
      have : (ops.toList.drop i)[0]? = some o := by rw [hr]; rfl
      simpa using this
    have hr' : ops.toList.drop (i + 1) = r := by rw [← List.drop_drop, hr]; rfl
    have step : ∀ E1 : List (Nat × V), noLent E1 = true → lk E1 = lk s.env → (stepF c (memN i mvs) o (lk E1) s.mem fun v => bif notL v then runQ c ops mvs (i + 1) k r (({ s with env := rmO E1 (consO (memN i mvs) o) } : St).dst o.dst v) K else none) = some res →
        (∀ v, stepF c (memN i mvs) o (lk s.env) s.mem some = some v → notL v = true → Gives c ops mvs s.mem i o (lk s.env) (v, true)) →
        ∃ R s2, R.length = min (k + 1) (o :: r).length ∧ K ((o :: r).drop (k + 1)) s2 = some res ∧ s2.mem = s.mem ∧ noLent s2.env = true ∧ TraceL c ops mvs s.mem i (lk s.env) R (lk s2.env) := by
      intro E1 hn1 hl hs hG
      rw [stepF_nat hC, hl, Option.bind_eq_some_iff] at hs
      obtain ⟨v, hv, hs⟩ := hs
      obtain ⟨hnv, hs⟩ := cond_then hs
      have hn2 := noLent_rmO (consO (memN i mvs) o) hn1
      have key : noLent (({ s with env := rmO E1 (consO (memN i mvs) o) } : St).dst o.dst v).env = true ∧ lk (({ s with env := rmO E1 (consO (memN i mvs) o) } : St).dst o.dst v).env = afterL (lk s.env) (memN i mvs) o (v, true) ∧
          (({ s with env := rmO E1 (consO (memN i mvs) o) } : St).dst o.dst v).mem = s.mem := by
        unfold afterL
        simp only [if_true]
        cases hd : o.dst with
        | none => exact ⟨hn2, by rw [updL_none, ← hl]; exact lk_rmO E1 _, rfl⟩
        | some d => exact ⟨noLent_set hn2 hnv, by rw [← hl, ← lk_rmO]; exact lk_set hn2, rfl⟩
      obtain ⟨R, s2, e1, e2, e3, e4, e5⟩ := runQ_trace hC k r (i + 1) _ hr' hs key.1
      rw [key.2.1, key.2.2] at e5
      exact ⟨(v, true) :: R, s2, by simp [e1], e2, e3.trans key.2.2, e4, o, hi, hG v hv hnv, e5⟩
    have skip : ∀ s1 : St, noLent s1.env = true → lk s1.env = lk s.env → s1.mem = s.mem → runQ c ops mvs (i + 1) k r (s1.dst o.dst .unit) K = some res → Gives c ops mvs s.mem i o (lk s.env) (.unit, false) →
        ∃ R s2, R.length = min (k + 1) (o :: r).length ∧ K ((o :: r).drop (k + 1)) s2 = some res ∧ s2.mem = s.mem ∧ noLent s2.env = true ∧ TraceL c ops mvs s.mem i (lk s.env) R (lk s2.env) := by
      intro s1 hn1 hl hm hs hG
      have key : noLent (s1.dst o.dst .unit).env = true ∧ lk (s1.dst o.dst .unit).env = afterL (lk s.env) (memN i mvs) o (.unit, false) ∧ (s1.dst o.dst .unit).mem = s.mem := by
        have e : afterL (lk s.env) (memN i mvs) o (.unit, false) = updL (lk s.env) o.dst (some .unit) := rfl
        rw [e]
        cases hd : o.dst with
        | none => exact ⟨hn1, by rw [updL_none]; exact hl, hm⟩
        | some d => exact ⟨noLent_set hn1 rfl, by rw [← hl]; exact lk_set hn1, hm⟩
      obtain ⟨R, s2, e1, e2, e3, e4, e5⟩ := runQ_trace hC k r (i + 1) _ hr' hs key.1
      rw [key.2.1, key.2.2] at e5
      exact ⟨(.unit, false) :: R, s2, by simp [e1], e2, e3.trans key.2.2, e4, o, hi, hG, e5⟩
    simp only [runQ] at h
    cases hgd : o.guard with
    | none =>
      simp only [hgd] at h
      exact step s.env hn rfl h fun v hv hnv => by simp only [Gives, hgd]; exact ⟨trivial, hv, hnv⟩
    | some jw =>
      obtain ⟨j, want⟩ := jw
      simp only [hgd, Option.bind_eq_some_iff] at h
      obtain ⟨g, hg, gv, hgv, h⟩ := h
      have hg' : (ops[j]?).bind (·.dst) = some g := by simpa [Option.bind_eq_some_iff] using hg
      split at h
      · rename_i b
        have hn1 : ∀ b', noLent (s.set g (.dat .bool b')).env = true := fun b' => noLent_set hn rfl
        have hl1 : lk (s.set g (.dat .bool b)).env = lk s.env := by
          show lk ((g, V.dat .bool b) :: rmW s.env g) = _
          rw [lk_set hn]; exact updL_same hgv
        rcases br_cases h with ⟨rfl, h⟩ | ⟨rfl, h⟩
        · cases want with
          | true => exact step _ (hn1 true) hl1 h fun v hv hnv => by simp only [Gives, hgd]; exact ⟨g, _, hg', hgv, .inl ⟨rfl, trivial, hv, hnv⟩⟩
          | false => exact skip _ (hn1 true) hl1 rfl h (by simp only [Gives, hgd]; exact ⟨g, _, hg', hgv, .inr ⟨.inl rfl, trivial⟩⟩)
        · cases want with
          | true => exact skip _ (hn1 false) hl1 rfl h (by simp only [Gives, hgd]; exact ⟨g, _, hg', hgv, .inr ⟨.inl rfl, trivial⟩⟩)
          | false => exact step _ (hn1 false) hl1 h fun v hv hnv => by simp only [Gives, hgd]; exact ⟨g, _, hg', hgv, .inl ⟨rfl, trivial, hv, hnv⟩⟩
      · exact skip s hn rfl rfl h (by simp only [Gives, hgd]; exact ⟨g, _, hg', hgv, .inr ⟨.inr rfl, trivial⟩⟩)
      · cases h
end Go.Proofs.Ytennedlpmacicaa.Pal
