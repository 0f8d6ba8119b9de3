/- The example of the law AuditLikes: it is true. -/
import Derived.Test.YtennedlpmacicaaAuditFns
import Derived.KernelRfl
namespace Go.Proofs.Ytennedlpmacicaa
open Pal
set_option maxRecDepth 100000 in
theorem law42_awake.is (k : Nat) : law42_awake.f (k + 40) = some true := by kernel_rfl
end Go.Proofs.Ytennedlpmacicaa
