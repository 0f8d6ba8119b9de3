/- A step looks at its operands alone. -/
import Derived.Test.YtennedlpmacicaaFree
namespace Go.Proofs.Ytennedlpmacicaa.Pal
open Go
variable {c : Cx}
theorem opds_congr {ρ ρ' : Option Ty → Operand → Option V} : ∀ (l : List (Nat × Operand)), (∀ e x, x ∈ l.map (·.2) → ρ e x = ρ' e x) → opds ρ l = opds ρ' l
  | [], _ => rfl
  | (i, x) :: r, h => by
    simp only [opds, h none x (by simp), opds_congr r fun e y hy => h e y (by simp at hy ⊢; exact .inr hy)]
theorem opdL_congr {ρ ρ' : Option Ty → Operand → Option V} : ∀ (l : List Operand), (∀ e x, x ∈ l → ρ e x = ρ' e x) → opdL ρ l = opdL ρ' l
  | [], _ => rfl
  | x :: r, h => by
    simp only [opdL, h none x (by simp), opdL_congr r fun e y hy => h e y (by simp [hy])]
theorem opdT_congr {ρ ρ' : Option Ty → Operand → Option V} : ∀ (l : List Operand) (tys : List (Option Ty)), (∀ e x, x ∈ l → ρ e x = ρ' e x) → opdT ρ tys l = opdT ρ' tys l
  | [], _, _ => rfl
  | x :: r, tys, h => by
    simp only [opdT, h _ x (by simp), opdT_congr r _ fun e y hy => h e y (by simp [hy])]
theorem stepQ_congr {α : Type} {o : Oper} {ρ ρ' : Option Ty → Operand → Option V} {m : List (Nat × V)} {K : V → Option α} (h : ∀ e x, x ∈ o.op.operands → ρ e x = ρ' e x) : stepQ c o ρ m K = stepQ c o ρ' m K := by
  obtain ⟨dst, op, ty, pos, after, guard⟩ := o
  simp only at h
  unfold stepQ
  cases op with
  | call cl =>
    obtain ⟨callee, args, tys⟩ := cl
    cases callee with
    | value f =>
      simp only [isCall, cond_true, callQ]
      rw [h none f (by simp [Op.operands, Call.operands])]
      congr 1; funext fv
      cases fv <;> try rfl
      rename_i g caps
      cases caps <;> try rfl
      simp only
      rw [opdT_congr args.toList _ fun e x hx => h e x (by simp [Op.operands, Call.operands]; simp at hx; exact .inr hx)]
    | builtin b =>
      have h' : ∀ e x, x ∈ args.toList → ρ e x = ρ' e x := fun e x hx => h e x (by simpa [Op.operands, Call.operands] using hx)
      simp only [isCall, cond_false, valO]
      split
      · rename_i x t _ hargs _
        rw [h' none x (by rw [hargs]; simp)]
      · rename_i x y hargs
        rw [h' none x (by rw [hargs]; simp), h' none y (by rw [hargs]; simp)]
      · rename_i x y hargs
        rw [h' none x (by rw [hargs]; simp), h' none y (by rw [hargs]; simp)]
      · rfl
    | invoke r m => rfl
  | makeFunc fn first caps =>
    cases fn with
    | func f =>
      simp only [isCall, cond_false, valO]
      rw [opdL_congr caps.toList fun e x hx => h e x (by simp [Op.operands]; simp at hx; exact .inr hx)]
    | _ => rfl
  | build t ps =>
    simp only [isCall, cond_false, valO]
    rw [opds_congr ps.toList fun e x hx => h e x (by simpa [Op.operands] using hx)]
  | slice t x lo hi mx =>
    have hx := h none x (by simp [Op.operands])
    cases lo with
    | none =>
      cases hi with
      | none => simp only [isCall, cond_false, valO, hx]
      | some y => simp only [isCall, cond_false, valO, hx, h none y (by simp [Op.operands])]
    | some z =>
      have hz := h none z (by simp [Op.operands])
      cases hi with
      | none => simp only [isCall, cond_false, valO, hx, hz]
      | some y => simp only [isCall, cond_false, valO, hx, hz, h none y (by simp [Op.operands])]
  | _ => first
    | rfl
    | (simp only [Op.operands] at h
       simp [isCall, valO, h])
end Go.Proofs.Ytennedlpmacicaa.Pal
