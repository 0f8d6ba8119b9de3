/- A step looks at its operands alone. -/
import Derived.Test.YtennedlpmacicaaFree
namespace Go.Proofs.Ytennedlpmacicaa.Pal
open Go
variable {c : Cx}
theorem opds_congr {ρ ρ' : Option Ty → Operand → Option V} : ∀ (l : List (Nat × Operand)), (∀ e x, x ∈ l.map (·.2) → ρ e x = ρ' e x) → opds ρ l = opds ρ' l
  | [], _ => rfl
  | (i, x) :: r, h => by
    simp only [opds, h none x (by simp), opds_congr r fun e y hy => h e y (by simp at hy ⊢; exact .inr hy)]
theorem opdL_congr {ρ ρ' : Option Ty → Operand → Option V} : ∀ (l : List Operand), (∀ e x, x ∈ l → ρ e x = ρ' e x) → opdL ρ l = opdL ρ' l
  | [], _ => rfl
  | x :: r, h => by
    simp only [opdL, h none x (by simp), opdL_congr r fun e y hy => h e y (by simp [hy])]
theorem opdT_congr {ρ ρ' : Option Ty → Operand → Option V} : ∀ (l : List Operand) (tys : List (Option Ty)), (∀ e x, x ∈ l → ρ e x = ρ' e x) → opdT ρ tys l = opdT ρ' tys l
  | [], _, _ => rfl
  | x :: r, tys, h => by
    simp only [opdT, h _ x (by simp), opdT_congr r _ fun e y hy => h e y (by simp [hy])]
theorem rdL_agree {L L' : Nat → Option V} {e : Option Ty} {x : Operand} (h : ∀ t, x = .tmp t → L t = L' t) : rdL L e x = rdL L' e x := by
  cases x with
  | tmp t => simp only [rdL, h t rfl]
  | _ => rfl
theorem takM_agree {L L' : Nat → Option V} {mv : Bool} {e : Option Ty} {x : Operand} (h : ∀ t, x = .tmp t → L t = L' t) : takM mv e L x = takM mv e L' x := by
  cases x with
  | tmp t => simp only [takM, h t rfl]
  | _ => rfl
theorem cutL_agree {L L' : Nat → Option V} (d : Option Nat) {t : Nat} (h : L t = L' t) : cutL L d t = cutL L' d t := by
  cases d with
  | none => exact h
  | some u => rw [cutL_eq, cutL_eq, h]
theorem valO_congr {α : Type} {o : Oper} {ρ ρ' : Option Ty → Operand → Option V} {m : List (Nat × V)} {K : V → Option α} (h : ∀ e x, x ∈ o.op.operands → ρ e x = ρ' e x) : valO c o ρ m K = valO c o ρ' m K := by
  obtain ⟨dst, op, ty, pos, after, guard⟩ := o
  simp only at h
  cases op with
  | call cl =>
    obtain ⟨callee, args, tys⟩ := cl
    cases callee with
    | value f => rfl
    | builtin b =>
      have h' : ∀ e x, x ∈ args.toList → ρ e x = ρ' e x := fun e x hx => h e x (by simpa [Op.operands, Call.operands] using hx)
      simp only [valO]
      split
      · rename_i x t _ hargs _
        rw [h' none x (by rw [hargs]; simp)]
      · rename_i x y hargs
        rw [h' none x (by rw [hargs]; simp), h' none y (by rw [hargs]; simp)]
      · rename_i x y hargs
        rw [h' none x (by rw [hargs]; simp), h' none y (by rw [hargs]; simp)]
      · rfl
    | invoke r m => rfl
  | makeFunc fn first caps =>
    cases fn with
    | func f =>
      simp only [valO]
      rw [opdL_congr caps.toList fun e x hx => h e x (by simp [Op.operands]; simp at hx; exact .inr hx)]
    | _ => rfl
  | build t ps =>
    simp only [valO]
    rw [opds_congr ps.toList fun e x hx => h e x (by simpa [Op.operands] using hx)]
  | slice t x lo hi mx =>
    have hx := h none x (by simp [Op.operands])
    cases lo with
    | none =>
      cases hi with
      | none => simp only [valO, hx]
      | some y => simp only [valO, hx, h none y (by simp [Op.operands])]
    | some z =>
      have hz := h none z (by simp [Op.operands])
      cases hi with
      | none => simp only [valO, hx, hz]
      | some y => simp only [valO, hx, hz, h none y (by simp [Op.operands])]
  | _ => first
    | rfl
    | (simp only [Op.operands] at h
       simp [valO, h])
theorem stepF_congr {α : Type} {mv : Bool} {o : Oper} {L L' : Nat → Option V} {m : List (Nat × V)} {K : V → Option α} (h : ∀ t, Operand.tmp t ∈ o.op.operands → L t = L' t) : stepF c mv o L m K = stepF c mv o L' m K := by
  obtain ⟨dst, op, ty, pos, after, guard⟩ := o
  simp only at h
  have hr : ∀ e x, x ∈ op.operands → rdL L e x = rdL L' e x := fun e x hx => rdL_agree fun t ht => h t (ht ▸ hx)
  have hc : ∀ d e x, x ∈ op.operands → rdL (cutL L d) e x = rdL (cutL L' d) e x := fun d e x hx => rdL_agree fun t ht => cutL_agree d (h t (ht ▸ hx))
  unfold stepF
  split
  · rename_i f args tys hop
    simp only at hop; subst hop
    rw [hr none f (by simp [Op.operands, Call.operands])]
    congr 1; funext fv
    split
    · have e : takLM mv (tys.toList.map c.ty) L args.toList = takLM mv (tys.toList.map c.ty) L' args.toList := by
        cases ha : args.toList with
        | nil => rfl
        | cons x r =>
          have hm : ∀ y, y ∈ x :: r → y ∈ (Op.call { callee := .value f, args := args, argTypes := tys } : Op).operands := fun y hy => by
            have : y ∈ args := by rw [← Array.mem_toList_iff, ha]; exact hy
            simp [Op.operands, Call.operands, this]
          simp only [takLM]
          rw [takM_agree (L' := L') fun t ht => h t (ht ▸ hm x (by simp))]
          rw [opdT_congr r _ fun e y hy => hc (tmpOf mv x) e y (hm y (by simp [hy]))]
      rw [e]
    · rfl
  · rename_i args tys hop
    simp only at hop; subst hop
    have hm : ∀ y, y ∈ args.toList → y ∈ (Op.call { callee := .builtin .append, args := args, argTypes := tys } : Op).operands := fun y hy => by
      have : y ∈ args := by rw [← Array.mem_toList_iff]; exact hy
      simp [Op.operands, Call.operands, this]
    split
    · rename_i x y t t2 ha _
      rw [takM_agree (L' := L') fun u hu => h u (hu ▸ hm x (by rw [ha]; simp)), hc (tmpOf mv x) (c.ty t) y (hm y (by rw [ha]; simp))]
    · rfl
  · rename_i t n parts hop
    simp only at hop; subst hop
    rw [opds_congr parts.toList fun e x hx => hr e x (by simpa [Op.operands] using hx)]
  · exact valO_congr hr
end Go.Proofs.Ytennedlpmacicaa.Pal
