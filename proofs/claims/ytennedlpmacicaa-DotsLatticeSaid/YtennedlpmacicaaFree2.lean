/- Regions whose order is free: any order comes to the same. -/
import Derived.Test.YtennedlpmacicaaCongr
namespace Go.Proofs.Ytennedlpmacicaa.Pal
open Go
variable {P : Program} {X Y : Nat → Nat → Prop} {G0 G G' : Gh} {w0 w w' : World} {s : St} {a : Act} {c : Cx} {Q : Exit → Act → World → Prop}

def dstAt (ops : Array Oper) (j : Nat) : Option Nat := (ops[j]?).bind (·.dst)
def onB (o : Oper) (j : Nat) : Bool := o.after.any fun e => Region.binds .any e && Nat.beq e.on j
/-- A variable that may be made early or late. -/
def alOk (ops : Array Oper) (mvs : List Nat) (n : Nat) (o : Oper) : Bool := match o.op, o.dst, o.guard with
  | .alloc _, some d, none => (List.range n).all fun j => (dstAt ops j != some d) && !(memN j mvs) && (match ops[j]? with | some p => !((p.looksAt ops).contains d) | none => true)
  | _, _, _ => false
/-- The first n steps may come in any order that their edges allow; the others stand behind all before them. What a step takes, nobody looks at behind it. -/
def okFree (ops : Array Oper) (mvs : List Nat) (n : Nat) : Bool :=
  Nat.ble n ops.size && (List.range ops.size).all fun i => match ops[i]? with
    | none => false
    | some o => o.after.all (fun e => !(Region.binds .any e) || Nat.blt e.on i) &&
      (if i < n then (List.range n).all fun j => Nat.beq i j || ((match dstAt ops j with
          | some d => (!((o.looksAt ops).contains d) || (Nat.blt j i && onB o j)) && (o.dst != some d)
          | none => true) && (match consO (memN i mvs) o, ops[j]? with
          | some t, some p => !((p.looksAt ops).contains t) || (Nat.blt j i && onB o j)
          | _, _ => true))
       else ((List.range i).all fun j => onB o j) || (Nat.beq i n && alOk ops mvs n o))
/-- What a step took. -/
def consR (ops : Array Oper) (mvs : List Nat) (i0 : Nat) (R : List (V × Bool)) (j : Nat) : Option Nat :=
  match ops[i0 + j]?, R[j]? with
  | some o, some x => if x.2 then consO (memN (i0 + j) mvs) o else none
  | _, _ => none
theorem consR_succ {ops : Array Oper} {mvs : List Nat} {i0 : Nat} {x : V × Bool} {R : List (V × Bool)} (j : Nat) : consR ops mvs i0 (x :: R) (j + 1) = consR ops mvs (i0 + 1) R j := by
  unfold consR
  rw [show i0 + (j + 1) = i0 + 1 + j by omega]; rfl
theorem consR_zero {ops : Array Oper} {mvs : List Nat} {i0 : Nat} {x : V × Bool} {R : List (V × Bool)} {o : Oper} (h : ops[i0]? = some o) : consR ops mvs i0 (x :: R) 0 = if x.2 then consO (memN i0 mvs) o else none := by
  unfold consR
  simp [h]
theorem afterL_other {L : Nat → Option V} {mv : Bool} {o : Oper} {x : V × Bool} {t : Nat} (h1 : o.dst ≠ some t) (h2 : (if x.2 then consO mv o else none) ≠ some t) : afterL L mv o x t = L t := by
  unfold afterL
  simp only [updL, if_neg h1]
  cases hc : (if x.2 then consO mv o else none) with
  | none => rfl
  | some u =>
    rw [cutL_eq, if_neg]
    intro e; subst e; exact h2 hc
theorem afterL_dst {L : Nat → Option V} {mv : Bool} {o : Oper} {x : V × Bool} {t : Nat} (h1 : o.dst = some t) : afterL L mv o x t = some x.1 := by
  unfold afterL; simp [updL, h1]
theorem afterL_cut {L : Nat → Option V} {mv : Bool} {o : Oper} {x : V × Bool} {t : Nat} (h1 : o.dst ≠ some t) (h2 : (if x.2 then consO mv o else none) = some t) : afterL L mv o x t = none := by
  unfold afterL
  simp only [updL, if_neg h1, h2, cutL_eq, if_true]
/-- What is known at a step of the text's order. -/
theorem trace_at {ops : Array Oper} {mvs : List Nat} {m : List (Nat × V)} : ∀ (R : List (V × Bool)) (i0 : Nat) (L L' : Nat → Option V), TraceL c ops mvs m i0 L R L' → ∀ k, k < R.length →
    ∃ o Lk x, ops[i0 + k]? = some o ∧ R[k]? = some x ∧ Gives c ops mvs m (i0 + k) o Lk x ∧ (∀ t, (∀ j, j < k → dstAt ops (i0 + j) ≠ some t ∧ consR ops mvs i0 R j ≠ some t) → Lk t = L t) ∧
      ∀ j t y, j < k → dstAt ops (i0 + j) = some t → (∀ j', j' < k → j' ≠ j → dstAt ops (i0 + j') ≠ some t ∧ consR ops mvs i0 R j' ≠ some t) → R[j]? = some y → Lk t = some y.1
  | [], _, _, _, _, k, hk => by simp at hk
  | x :: R, i0, L, L', ⟨o, h1, h2, h3⟩, k, hk => by
    have hd0 : dstAt ops i0 = o.dst := by simp [dstAt, h1]
    cases k with
    | zero => exact ⟨o, L, x, h1, rfl, h2, fun _ _ => rfl, fun j t y hj => by omega⟩
    | succ k =>
      obtain ⟨o', Lk, x', e1, e2, e3, e4, e5⟩ := trace_at R (i0 + 1) _ L' h3 k (by simpa using hk)
      refine ⟨o', Lk, x', by rw [← e1]; congr 1; omega, by simpa using e2, by rw [show i0 + (k + 1) = i0 + 1 + k by omega]; exact e3, fun t ht => ?_, fun j t y hj hd hu hy => ?_⟩
      · rw [e4 t fun j hj => by have := ht (j + 1) (by omega); rwa [consR_succ, show i0 + (j + 1) = i0 + 1 + j by omega] at this]
        have := ht 0 (by omega)
        rw [Nat.add_zero, hd0, consR_zero h1] at this
        exact afterL_other this.1 this.2
      · cases j with
        | zero =>
          simp only [List.getElem?_cons_zero, Option.some.injEq] at hy; subst hy
          rw [Nat.add_zero, hd0] at hd
          rw [e4 t fun j' hj' => by have := hu (j' + 1) (by omega) (by omega); rwa [consR_succ, show i0 + (j' + 1) = i0 + 1 + j' by omega] at this]
          exact afterL_dst hd
        | succ j =>
          exact e5 j t y (by omega) (by rwa [show i0 + 1 + j = i0 + (j + 1) by omega]) (fun j' hj' hne => by have := hu (j' + 1) (by omega) (by omega); rwa [consR_succ, show i0 + (j' + 1) = i0 + 1 + j' by omega] at this) (by simpa using hy)
/-- What is gone stays so. -/
theorem trace_gone {ops : Array Oper} {mvs : List Nat} {m : List (Nat × V)} {t : Nat} : ∀ (R : List (V × Bool)) (i0 : Nat) (L L' : Nat → Option V), TraceL c ops mvs m i0 L R L' → L t = none → (∀ j, j < R.length → dstAt ops (i0 + j) ≠ some t) → L' t = none
  | [], _, L, L', h, hl, _ => by rw [show L' = L from h]; exact hl
  | x :: R, i0, L, L', ⟨o, h1, h2, h3⟩, hl, hd => by
    have hd0 : dstAt ops i0 = o.dst := by simp [dstAt, h1]
    have h0 := hd 0 (by simp)
    rw [Nat.add_zero, hd0] at h0
    refine trace_gone R (i0 + 1) _ L' h3 ?_ fun j hj => by have := hd (j + 1) (by simp; omega); rwa [show i0 + (j + 1) = i0 + 1 + j by omega] at this
    by_cases e : (if x.2 then consO (memN i0 mvs) o else none) = some t
    · exact afterL_cut h0 e
    · rw [afterL_other h0 e]; exact hl
/-- What is known at the end. -/
theorem trace_end {ops : Array Oper} {mvs : List Nat} {m : List (Nat × V)} : ∀ (R : List (V × Bool)) (i0 : Nat) (L L' : Nat → Option V), TraceL c ops mvs m i0 L R L' →
    (∀ t, (∀ j, j < R.length → dstAt ops (i0 + j) ≠ some t ∧ consR ops mvs i0 R j ≠ some t) → L' t = L t) ∧
      (∀ j t y, j < R.length → dstAt ops (i0 + j) = some t → (∀ j', j' < R.length → j' ≠ j → dstAt ops (i0 + j') ≠ some t ∧ consR ops mvs i0 R j' ≠ some t) → R[j]? = some y → L' t = some y.1) ∧
      ∀ j t, j < R.length → consR ops mvs i0 R j = some t → (∀ j', j ≤ j' → j' < R.length → dstAt ops (i0 + j') ≠ some t) → L' t = none
  | [], _, L, L', h => ⟨fun t _ => by rw [show L' = L from h], fun j t y hj => by simp at hj, fun j t hj => by simp at hj⟩
  | x :: R, i0, L, L', ⟨o, h1, h2, h3⟩ => by
    obtain ⟨e4, e5, e6⟩ := trace_end R (i0 + 1) _ L' h3
    have hd0 : dstAt ops i0 = o.dst := by simp [dstAt, h1]
    refine ⟨fun t ht => ?_, fun j t y hj hd hu hy => ?_, fun j t hj hc hd => ?_⟩
    · rw [e4 t fun j hj => by have := ht (j + 1) (by simp; omega); rwa [consR_succ, show i0 + (j + 1) = i0 + 1 + j by omega] at this]
      have := ht 0 (by simp)
      rw [Nat.add_zero, hd0, consR_zero h1] at this
      exact afterL_other this.1 this.2
    · cases j with
      | zero =>
        simp only [List.getElem?_cons_zero, Option.some.injEq] at hy; subst hy
        rw [Nat.add_zero, hd0] at hd
        rw [e4 t fun j' hj' => by have := hu (j' + 1) (by simp; omega) (by omega); rwa [consR_succ, show i0 + (j' + 1) = i0 + 1 + j' by omega] at this]
        exact afterL_dst hd
      | succ j =>
        exact e5 j t y (by simp at hj; omega) (by rwa [show i0 + 1 + j = i0 + (j + 1) by omega]) (fun j' hj' hne => by have := hu (j' + 1) (by simp; omega) (by omega); rwa [consR_succ, show i0 + (j' + 1) = i0 + 1 + j' by omega] at this) (by simpa using hy)
    · cases j with
      | zero =>
        rw [consR_zero h1] at hc
        have h0 := hd 0 (Nat.le_refl _) (by simp)
        rw [Nat.add_zero, hd0] at h0
        exact trace_gone R (i0 + 1) _ L' h3 (afterL_cut h0 hc) fun j' hj' => by have := hd (j' + 1) (by omega) (by simp; omega); rwa [show i0 + (j' + 1) = i0 + 1 + j' by omega] at this
      | succ j =>
        rw [consR_succ] at hc
        exact e6 j t (by simp at hj; omega) hc fun j' h1 h2 => by have := hd (j' + 1) (by omega) (by simp; omega); rwa [show i0 + (j' + 1) = i0 + 1 + j' by omega] at this
end Go.Proofs.Ytennedlpmacicaa.Pal
