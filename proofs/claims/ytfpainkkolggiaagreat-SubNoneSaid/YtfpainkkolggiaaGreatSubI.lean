/- The next state: rows that are so. -/
import Derived.Test.YtfpainkkolggiaaGreatSubE
namespace Go.Dm
open Go.Proofs
theorem row3_ok : entsOk call2 219 row3 = true := by kernel_rfl
theorem row7_ok : entsOk call2 219 row7 = true := by kernel_rfl
end Go.Dm
