/- The head's calls: a closed reckoning; sizes of what a law is handed. No conditions. -/
import Derived.Test.YtpbiclnkbkghaaaC1
import Derived.Test.YtpbiclnkbkghaaaR0
set_option maxRecDepth 20000
namespace Go.Proofs.YtpbiclnkbkghaaaC
open Go Go.Ev Go.Proofs
variable {ρ : Type}
theorem head_ok (k : Nat) (κ : AV → Option ρ) : callP ctx (k + 60) n_law10_head [] κ = κ (.bool true) := by kernel_rfl
theorem fine_of {a : Sl TCell} (h : SSl 32 SCell a) : Fine a.n a.w := fun i hi => h.2 i hi
end Go.Proofs.YtpbiclnkbkghaaaC
