/- Regions whose order is free: any order comes to the same. -/
import Derived.Test.YtennedlpmacicaaCongr
namespace Go.Proofs.Ytennedlpmacicaa.Pal
open Go
variable {P : Program} {X Y : Nat → Nat → Prop} {G0 G G' : Gh} {w0 w w' : World} {s : St} {a : Act} {c : Cx} {Q : Exit → Act → World → Prop}

def dstAt (ops : Array Oper) (j : Nat) : Option Nat := (ops[j]?).bind (·.dst)
def onB (o : Oper) (j : Nat) : Bool := o.after.any fun e => Region.binds .any e && Nat.beq e.on j
/-- The first n steps may come in any order that their edges allow; the others stand behind all before them. -/
def okFree (ops : Array Oper) (n : Nat) : Bool :=
  Nat.ble n ops.size && (List.range ops.size).all fun i => match ops[i]? with
    | none => false
    | some o => o.after.all (fun e => !(Region.binds .any e) || Nat.blt e.on i) &&
      (if i < n then (List.range n).all fun j => Nat.beq i j || ((match dstAt ops j with
          | some d => (!((o.looksAt ops).contains d) || (Nat.blt j i && onB o j)) && (o.dst != some d)
          | none => true))
       else (List.range i).all fun j => onB o j)
/-- What is known at a step of the text's order. -/
theorem trace_at {ops : Array Oper} {m : List (Nat × V)} : ∀ (R : List (Option V)) (i0 : Nat) (L L' : Nat → Option V), TraceL c ops m i0 L R L' → ∀ k, k < R.length →
    ∃ o Lk x, ops[i0 + k]? = some o ∧ R[k]? = some x ∧ Gives c ops m o Lk x ∧ (∀ t, (∀ j, j < k → dstAt ops (i0 + j) ≠ some t) → Lk t = L t) ∧
      ∀ j t y, j < k → dstAt ops (i0 + j) = some t → (∀ j', j' < k → j' ≠ j → dstAt ops (i0 + j') ≠ some t) → R[j]? = some y → Lk t = y
  | [], _, _, _, _, k, hk => by simp at hk
  | x :: R, i0, L, L', ⟨o, h1, h2, h3⟩, k, hk => by
    cases k with
    | zero => exact ⟨o, L, x, h1, rfl, h2, fun _ _ => rfl, fun j t y hj => by omega⟩
    | succ k =>
      obtain ⟨o', Lk, x', e1, e2, e3, e4, e5⟩ := trace_at R (i0 + 1) _ L' h3 k (by simpa using hk)
      have hd0 : dstAt ops i0 = o.dst := by simp [dstAt, h1]
      refine ⟨o', Lk, x', by rw [← e1]; congr 1; omega, by simpa using e2, e3, fun t ht => ?_, fun j t y hj hd hu hy => ?_⟩
      · rw [e4 t fun j hj => by have := ht (j + 1) (by omega); rwa [show i0 + (j + 1) = i0 + 1 + j by omega] at this]
        have := ht 0 (by omega)
        rw [Nat.add_zero, hd0] at this
        simp [updL, this]
      · cases j with
        | zero =>
          simp only [List.getElem?_cons_zero, Option.some.injEq] at hy; subst hy
          rw [Nat.add_zero, hd0] at hd
          rw [e4 t fun j' hj' => by have := hu (j' + 1) (by omega) (by omega); rwa [show i0 + (j' + 1) = i0 + 1 + j' by omega] at this]
          simp [updL, hd]
        | succ j =>
          exact e5 j t y (by omega) (by rwa [show i0 + 1 + j = i0 + (j + 1) by omega]) (fun j' hj' hne => by have := hu (j' + 1) (by omega) (by omega); rwa [show i0 + (j' + 1) = i0 + 1 + j' by omega] at this) (by simpa using hy)
/-- What is known at the end. -/
theorem trace_end {ops : Array Oper} {m : List (Nat × V)} : ∀ (R : List (Option V)) (i0 : Nat) (L L' : Nat → Option V), TraceL c ops m i0 L R L' →
    (∀ t, (∀ j, j < R.length → dstAt ops (i0 + j) ≠ some t) → L' t = L t) ∧
      ∀ j t y, j < R.length → dstAt ops (i0 + j) = some t → (∀ j', j' < R.length → j' ≠ j → dstAt ops (i0 + j') ≠ some t) → R[j]? = some y → L' t = y
  | [], _, L, L', h => ⟨fun t _ => by rw [show L' = L from h], fun j t y hj => by simp at hj⟩
  | x :: R, i0, L, L', ⟨o, h1, h2, h3⟩ => by
    obtain ⟨e4, e5⟩ := trace_end R (i0 + 1) _ L' h3
    have hd0 : dstAt ops i0 = o.dst := by simp [dstAt, h1]
    refine ⟨fun t ht => ?_, fun j t y hj hd hu hy => ?_⟩
    · rw [e4 t fun j hj => by have := ht (j + 1) (by simp; omega); rwa [show i0 + (j + 1) = i0 + 1 + j by omega] at this]
      have := ht 0 (by simp)
      rw [Nat.add_zero, hd0] at this
      simp [updL, this]
    · cases j with
      | zero =>
        simp only [List.getElem?_cons_zero, Option.some.injEq] at hy; subst hy
        rw [Nat.add_zero, hd0] at hd
        rw [e4 t fun j' hj' => by have := hu (j' + 1) (by simp; omega) (by omega); rwa [show i0 + (j' + 1) = i0 + 1 + j' by omega] at this]
        simp [updL, hd]
      | succ j =>
        exact e5 j t y (by simp at hj; omega) (by rwa [show i0 + 1 + j = i0 + (j + 1) by omega]) (fun j' hj' hne => by have := hu (j' + 1) (by simp; omega) (by omega); rwa [show i0 + (j' + 1) = i0 + 1 + j' by omega] at this) (by simpa using hy)
end Go.Proofs.Ytennedlpmacicaa.Pal
