/- The law FnExactLinkNew in plain Lean: what it computes is true. No condition. -/
import Derived.Test.YtfeknndjngaieaaKa
import Derived.KernelRfl
namespace Go.Lap
theorem law_FnExactLinkNew : laws_FnExactLinkNew = true := by kernel_rfl
end Go.Lap
