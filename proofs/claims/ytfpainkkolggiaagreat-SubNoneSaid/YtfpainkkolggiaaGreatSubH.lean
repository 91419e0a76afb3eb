/- The next state: rows that are so. -/
import Derived.Test.YtfpainkkolggiaaGreatSubE
namespace Go.Dm
open Go.Proofs
theorem row2_ok : entsOk call2 219 row2 = true := by kernel_rfl
theorem row6_ok : entsOk call2 219 row6 = true := by kernel_rfl
end Go.Dm
