/- Regions whose order is free: what the steps give in the text's order. -/
import Derived.Test.YtennedlpmacicaaNat
namespace Go.Proofs.Ytennedlpmacicaa.Pal
open Go
variable {P : Program} {X Y : Nat → Nat → Prop} {G0 G G' : Gh} {w0 w w' : World} {s : St} {a : Act} {c : Cx} {Q : Exit → Act → World → Prop}

/-- An operand, told by look-ups. -/
def rdL (L : Nat → Option V) (e : Option Ty) : Operand → Option V
  | .tmp t => (L t).bind V.copyO
  | .const v => cV e v
  | .func f => some (.fn f [])
  | .global _ => none
theorem opd_rdL (s : St) (e : Option Ty) (x : Operand) : opd e s x = rdL (lk s.env) e x := by cases x <;> rfl
theorem rdL_of (s : St) : (fun e x => opd e s x) = rdL (lk s.env) := by funext e x; exact opd_rdL s e x
theorem callQ_nat {α : Type} (hC : ∀ f e, lkN c.fns f = some e → CallOK P f e) (o : Oper) (ρ : Option Ty → Operand → Option V) (K : V → Option α) : callQ c o ρ K = (callQ c o ρ some).bind K := by
  unfold callQ
  split
  · refine bind_nat fun a => ?_
    split
    · refine bind_nat fun b => ?_
      rw [cond_bind]; congr 1
      cases he : lkN c.fns _ with
      | none => rfl
      | some e =>
        simp only [Option.bind_some]
        rw [(hC _ e he).nat, (hC _ e he).nat V]
        refine bind_nat fun p => ?_
        rw [cond_bind]; rfl
    · rfl
  · rfl
theorem stepQ_nat {α : Type} (hC : ∀ f e, lkN c.fns f = some e → CallOK P f e) (o : Oper) (ρ : Option Ty → Operand → Option V) (m : List (Nat × V)) (K : V → Option α) : stepQ c o ρ m K = (stepQ c o ρ m some).bind K := by
  unfold stepQ
  cases isCall o with
  | true => exact callQ_nat hC o ρ K
  | false => exact valO_nat o ρ m K
def updL (L : Nat → Option V) (d : Option Nat) (x : Option V) : Nat → Option V := fun t => if d = some t then x else L t
/-- What a step gives, or that it is left out. -/
def Gives (c : Cx) (ops : Array Oper) (m : List (Nat × V)) (o : Oper) (L : Nat → Option V) (x : Option V) : Prop :=
  match o.guard with
  | none => ∃ v, x = some v ∧ stepQ c o (rdL L) m some = some v ∧ notL v = true
  | some (j, want) => ∃ g gv, (ops[j]?).bind (·.dst) = some g ∧ L g = some gv ∧ ((gv = .dat .bool want ∧ ∃ v, x = some v ∧ stepQ c o (rdL L) m some = some v ∧ notL v = true) ∨ ((gv = .dat .bool (!want) ∨ gv = .unit) ∧ x = some .unit))
def TraceL (c : Cx) (ops : Array Oper) (m : List (Nat × V)) : Nat → (Nat → Option V) → List (Option V) → (Nat → Option V) → Prop
  | _, L, [], L' => L' = L
  | i, L, x :: R, L' => ∃ o, ops[i]? = some o ∧ Gives c ops m o L x ∧ TraceL c ops m (i + 1) (updL L o.dst x) R L'
theorem rmW_noLent : ∀ (env : List (Nat × V)) (d : Nat), noLent env = true → rmW env d = rm env d
  | [], _, _ => rfl
  | (k, v) :: r, d, h => by
    simp only [noLent, Bool.and_eq_true] at h
    have ih := rmW_noLent r d h.2
    cases v with
    | lent t => cases h.1
    | _ => simp only [rmW, rm, ih, Bool.or_false]
theorem noLent_rm : ∀ (env : List (Nat × V)) (d : Nat), noLent env = true → noLent (rm env d) = true
  | [], _, _ => rfl
  | (k, v) :: r, d, h => by
    have h2 := h
    simp only [noLent, Bool.and_eq_true] at h
    rw [rm_cons]
    split
    · exact noLent_rm r d h.2
    · simp only [noLent, Bool.and_eq_true]; exact ⟨h.1, noLent_rm r d h.2⟩
theorem lk_rm_same (d : Nat) : ∀ env : List (Nat × V), lk (rm env d) d = none
  | [] => rfl
  | (k, v) :: r => by
    rw [rm_cons]
    split
    · exact lk_rm_same d r
    · rename_i e; rw [lk_cons, if_neg e, lk_rm_same d r]
theorem lk_set {env : List (Nat × V)} {d : Nat} {v : V} (h : noLent env = true) : lk ((d, v) :: rmW env d) = updL (lk env) (some d) (some v) := by
  funext t
  rw [lk_cons, rmW_noLent env d h]
  simp only [updL, Option.some.injEq]
  split
  · rfl
  · rename_i e; exact lk_rm_other e env
theorem lk_rmW {env : List (Nat × V)} {d : Nat} (h : noLent env = true) : lk (rmW env d) = updL (lk env) (some d) none := by
  funext t
  rw [rmW_noLent env d h]
  simp only [updL, Option.some.injEq]
  split
  · rename_i e; subst e; exact lk_rm_same d env
  · rename_i e; exact lk_rm_other e env
theorem noLent_set {env : List (Nat × V)} {d : Nat} {v : V} (h : noLent env = true) (hv : notL v = true) : noLent ((d, v) :: rmW env d) = true := by
  rw [rmW_noLent env d h]
  simp only [noLent, Bool.and_eq_true]
  refine ⟨?_, noLent_rm env d h⟩
  cases v <;> first | rfl | (simp [notL] at hv)
theorem updL_none (L : Nat → Option V) (x : Option V) : updL L none x = L := by funext t; simp [updL]
theorem updL_same {L : Nat → Option V} {g : Nat} {v : V} (h : L g = some v) : updL L (some g) (some v) = L := by
  funext t
  simp only [updL, Option.some.injEq]
  split
  · rename_i e; subst e; exact h.symm
  · rfl
/-- What the run in the text's order says. -/
theorem runQ_trace {α : Type} {ops : Array Oper} {K : List Oper → St → Option α} {res : α} (hC : ∀ f e, lkN c.fns f = some e → CallOK P f e) :
    ∀ (k : Nat) (r : List Oper) (i : Nat) (s : St), ops.toList.drop i = r → runQ c ops k r s K = some res → noLent s.env = true →
      ∃ R s1, R.length = min k r.length ∧ K (r.drop k) s1 = some res ∧ s1.mem = s.mem ∧ noLent s1.env = true ∧ TraceL c ops s.mem i (lk s.env) R (lk s1.env)
  | 0, r, i, s, hr, h, hn => ⟨[], s, by simp, by simpa [runQ] using h, rfl, hn, rfl⟩
  | k + 1, [], i, s, hr, h, hn => ⟨[], s, by simp, by simpa [runQ] using h, rfl, hn, rfl⟩
  | k + 1, o :: r, i, s, hr, h, hn => by
    have hi : ops[i]? = some o := by
      rw [← Array.getElem?_toList]
      have : (ops.toList.drop i)[0]? = some o := by rw [hr]; rfl
      simpa using this
    have hr' : ops.toList.drop (i + 1) = r := by rw [← List.drop_drop, hr]; rfl
    have step : ∀ s1 : St, noLent s1.env = true → lk s1.env = lk s.env → s1.mem = s.mem → (stepQ c o (fun e x => opd e s1 x) s.mem fun v => bif notL v then runQ c ops k r (s1.dst o.dst v) K else none) = some res →
        (∀ v, stepQ c o (rdL (lk s.env)) s.mem some = some v → notL v = true → Gives c ops s.mem o (lk s.env) (some v)) →
        ∃ R s2, R.length = min (k + 1) (o :: r).length ∧ K ((o :: r).drop (k + 1)) s2 = some res ∧ s2.mem = s.mem ∧ noLent s2.env = true ∧ TraceL c ops s.mem i (lk s.env) R (lk s2.env) := by
      intro s1 hn1 hl hm hs hG
      rw [stepQ_nat hC, rdL_of, hl, Option.bind_eq_some_iff] at hs
      obtain ⟨v, hv, hs⟩ := hs
      obtain ⟨hnv, hs⟩ := cond_then hs
      have key : noLent (s1.dst o.dst v).env = true ∧ lk (s1.dst o.dst v).env = updL (lk s.env) o.dst (some v) ∧ (s1.dst o.dst v).mem = s.mem := by
        cases hd : o.dst with
        | none => exact ⟨hn1, by rw [updL_none]; exact hl, hm⟩
        | some d => exact ⟨noLent_set hn1 hnv, by rw [← hl]; exact lk_set hn1, hm⟩
      obtain ⟨R, s2, e1, e2, e3, e4, e5⟩ := runQ_trace hC k r (i + 1) _ hr' hs key.1
      rw [key.2.1, key.2.2] at e5
      exact ⟨some v :: R, s2, by simp [e1], e2, e3.trans key.2.2, e4, o, hi, hG v hv hnv, e5⟩
    have skip : ∀ s1 : St, noLent s1.env = true → lk s1.env = lk s.env → s1.mem = s.mem → runQ c ops k r (s1.dst o.dst .unit) K = some res → Gives c ops s.mem o (lk s.env) (some .unit) →
        ∃ R s2, R.length = min (k + 1) (o :: r).length ∧ K ((o :: r).drop (k + 1)) s2 = some res ∧ s2.mem = s.mem ∧ noLent s2.env = true ∧ TraceL c ops s.mem i (lk s.env) R (lk s2.env) := by
      intro s1 hn1 hl hm hs hG
      have key : noLent (s1.dst o.dst .unit).env = true ∧ lk (s1.dst o.dst .unit).env = updL (lk s.env) o.dst (some .unit) ∧ (s1.dst o.dst .unit).mem = s.mem := by
        cases hd : o.dst with
        | none => exact ⟨hn1, by rw [updL_none]; exact hl, hm⟩
        | some d => exact ⟨noLent_set hn1 rfl, by rw [← hl]; exact lk_set hn1, hm⟩
      obtain ⟨R, s2, e1, e2, e3, e4, e5⟩ := runQ_trace hC k r (i + 1) _ hr' hs key.1
      rw [key.2.1, key.2.2] at e5
      exact ⟨some .unit :: R, s2, by simp [e1], e2, e3.trans key.2.2, e4, o, hi, hG, e5⟩
    simp only [runQ] at h
    cases hgd : o.guard with
    | none =>
      simp only [hgd] at h
      exact step s hn rfl rfl h fun v hv hnv => by simp only [Gives, hgd]; exact ⟨v, rfl, hv, hnv⟩
    | some jw =>
      obtain ⟨j, want⟩ := jw
      simp only [hgd, Option.bind_eq_some_iff] at h
      obtain ⟨g, hg, gv, hgv, h⟩ := h
      have hg' : (ops[j]?).bind (·.dst) = some g := by simpa [Option.bind_eq_some_iff] using hg
      split at h
      · rename_i b
        have hn1 : ∀ b', noLent (s.set g (.dat .bool b')).env = true := fun b' => noLent_set hn rfl
        have hl1 : lk (s.set g (.dat .bool b)).env = lk s.env := by
          show lk ((g, V.dat .bool b) :: rmW s.env g) = _
          rw [lk_set hn]; exact updL_same hgv
        rcases br_cases h with ⟨rfl, h⟩ | ⟨rfl, h⟩
        · cases want with
          | true => exact step _ (hn1 true) hl1 rfl h fun v hv hnv => by simp only [Gives, hgd]; exact ⟨g, _, hg', hgv, .inl ⟨rfl, v, rfl, hv, hnv⟩⟩
          | false => exact skip _ (hn1 true) hl1 rfl h (by simp only [Gives, hgd]; exact ⟨g, _, hg', hgv, .inr ⟨.inl rfl, trivial⟩⟩)
        · cases want with
          | true => exact skip _ (hn1 false) hl1 rfl h (by simp only [Gives, hgd]; exact ⟨g, _, hg', hgv, .inr ⟨.inl rfl, trivial⟩⟩)
          | false => exact step _ (hn1 false) hl1 rfl h fun v hv hnv => by simp only [Gives, hgd]; exact ⟨g, _, hg', hgv, .inl ⟨rfl, v, rfl, hv, hnv⟩⟩
      · exact skip s hn rfl rfl h (by simp only [Gives, hgd]; exact ⟨g, _, hg', hgv, .inr ⟨.inr rfl, trivial⟩⟩)
      · cases h
end Go.Proofs.Ytennedlpmacicaa.Pal
