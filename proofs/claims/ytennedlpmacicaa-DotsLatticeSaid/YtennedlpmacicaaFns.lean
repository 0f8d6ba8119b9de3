/- A list of functions of which all is promised. -/
import Derived.Test.YtennedlpmacicaaFn
namespace Go.Proofs.Ytennedlpmacicaa.Pal
open Go
variable {P : Program}
def Fns (P : Program) : List (Nat × Entry) → Prop
  | [] => True
  | (f, e) :: r => CallOK P f e ∧ Fns P r
theorem fns_ok : ∀ {l : List (Nat × Entry)}, Fns P l → ∀ f e, lkN l f = some e → CallOK P f e
  | [], _, _, _, h => by simp [lkN] at h
  | (g, e') :: r, ⟨h1, h2⟩, f, e, h => by
    simp only [lkN] at h
    cases hb : Nat.beq g f with
    | true =>
      rw [hb] at h
      simp only [cond_true, Option.some.injEq] at h
      have := beq_nat.1 hb
      subst this; subst h; exact h1
    | false => rw [hb] at h; exact fns_ok h2 f e h
end Go.Proofs.Ytennedlpmacicaa.Pal
