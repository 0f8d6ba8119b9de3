/- What an operation gives does not hang on what is done with it. -/
import Derived.Test.YtennedlpmacicaaReg
namespace Go.Proofs.Ytennedlpmacicaa.Pal
open Go
variable {c : Cx}
theorem br_bind {α β : Type} {b : Bool} {x y : Option α} {f : α → Option β} : (br b x y).bind f = br b (x.bind f) (y.bind f) := by cases b <;> rfl
theorem cond_bind {α β : Type} {b : Bool} {x : Option α} {f : α → Option β} : (bif b then x else none).bind f = bif b then x.bind f else none := by cases b <;> rfl
theorem bind_nat {α β γ : Type} {x : Option α} {f : α → Option β} {g : α → Option γ} {k : γ → Option β} (h : ∀ a, f a = (g a).bind k) : x.bind f = (x.bind g).bind k := by
  cases x with
  | none => rfl
  | some a => exact h a
theorem binV_nat {α : Type} (pt : Bool) (ty : Option Ty) (op : BinOp) (x y : V) (K : V → Option α) : binV pt ty op x y K = (binV pt ty op x y some).bind K := by
  unfold binV
  split
  · cases op <;> simp only [br_bind, Option.bind_some, Option.bind_none]
  · cases op <;> simp only [br_bind, Option.bind_some, Option.bind_none]
  · cases pt <;> cases op <;> rfl
  · cases pt <;> cases op <;> rfl
  · cases pt <;> cases op <;> rfl
  · split
    · rename_i τ
      cases τ.hasEq with
      | false => rfl
      | true =>
        simp only [cond_true]
        refine bind_nat fun a => bind_nat fun b => ?_
        cases op <;> rfl
    · rfl
theorem valO_nat {α : Type} (o : Oper) (ρ : Option Ty → Operand → Option V) (m : List (Nat × V)) (K : V → Option α) : valO c o ρ m K = (valO c o ρ m some).bind K := by
  unfold valO
  split
  · exact bind_nat fun a => rfl
  · exact bind_nat fun a => rfl
  · refine bind_nat fun a => ?_
    split
    · rw [br_bind]
      congr 1
      · exact bind_nat fun a => rfl
      · exact bind_nat fun a => rfl
    · rfl
  · refine bind_nat fun a => ?_
    rw [cond_bind]; congr 1
    exact bind_nat fun b => bind_nat fun d => rfl
  · refine bind_nat fun a => bind_nat fun b => ?_
    split
    · refine bind_nat fun d => bind_nat fun e => ?_
      rw [cond_bind]; rfl
    · rw [cond_bind]; rfl
    · rfl
  · refine bind_nat fun a => ?_
    split <;> rfl
  · refine bind_nat fun a => bind_nat fun b => ?_
    rw [cond_bind, ← binV_nat]
  · refine bind_nat fun a => ?_
    split <;> rfl
  · refine bind_nat fun a => bind_nat fun b => bind_nat fun d => ?_
    split <;> rfl
  · refine bind_nat fun a => bind_nat fun b => bind_nat fun d => bind_nat fun e => ?_
    split
    · exact bind_nat fun a => by rw [br_bind]; rfl
    · exact bind_nat fun a => by rw [br_bind]; rfl
    · rfl
  · refine bind_nat fun a => ?_
    rw [cond_bind]; congr 1
    refine bind_nat fun b => ?_
    split
    · rfl
    · refine bind_nat fun d => ?_
      split <;> rfl
    · rfl
  · refine bind_nat fun a => bind_nat fun b => bind_nat fun d => ?_
    split
    · exact bind_nat fun a => by rw [br_bind]; rfl
    · split
      · rw [br_bind]; rfl
      · exact bind_nat fun a => by rw [br_bind]; rfl
      · rfl
    · rfl
  · refine bind_nat fun a => bind_nat fun b => bind_nat fun d => ?_
    split
    · exact bind_nat fun a => by rw [br_bind]; rfl
    · exact bind_nat fun a => by rw [br_bind]; rfl
    · rfl
  · refine bind_nat fun a => ?_
    split <;> rfl
  · rw [cond_bind]; congr 1
    exact bind_nat fun a => bind_nat fun b => rfl
  · split
    · refine bind_nat fun a => bind_nat fun b => ?_
      rw [cond_bind]; congr 1
      exact bind_nat fun d => rfl
    · refine bind_nat fun a => bind_nat fun b => ?_
      split
      · rw [cond_bind]; rfl
      · rfl
    · refine bind_nat fun a => bind_nat fun b => ?_
      split
      · rw [cond_bind]; rfl
      · rfl
    · rfl
  · rfl
end Go.Proofs.Ytennedlpmacicaa.Pal
