/- The next state: rows that are so. -/
import Derived.Test.YtfpainkkolggiaaGreatSubE
namespace Go.Dm
open Go.Proofs
theorem row1_ok : entsOk call2 219 row1 = true := by kernel_rfl
theorem row5_ok : entsOk call2 219 row5 = true := by kernel_rfl
theorem row9_ok : entsOk call2 219 row9 = true := by kernel_rfl
end Go.Dm
