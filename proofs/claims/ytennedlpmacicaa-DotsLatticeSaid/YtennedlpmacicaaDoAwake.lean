/- Chapter 6's example: it is as it is told. -/
import Derived.Test.YtennedlpmacicaaDoFns
import Derived.KernelRfl
namespace Go.Proofs.Ytennedlpmacicaa
open Pal
set_option maxRecDepth 100000 in
theorem law06_awake.is (k : Nat) : law06_awake.f (k + 40) = some true := by kernel_rfl
theorem awake06 {k : Nat} (h : 40 ≤ k) : law06_awake.f k = some true := by
  obtain ⟨q, rfl⟩ : ∃ q, k = q + 40 := ⟨k - 40, by omega⟩
  exact law06_awake.is q
end Go.Proofs.Ytennedlpmacicaa
