/- The head's calls: a closed reckoning. No conditions. -/
import Derived.Test.YtadbbgechcjciaaR0
set_option maxRecDepth 40000
namespace Go.Proofs.YtadbbgechcjciaaC
open Go Go.Ev Go.Proofs
variable {ρ : Type}
theorem head_ok (k : Nat) (κ : AV → Option ρ) : callP ctx (k + 80) n_law11_head [] κ = κ (.bool true) := by kernel_rfl
end Go.Proofs.YtadbbgechcjciaaC
