/- The next state: rows that are so. -/
import Derived.Test.YtfpainkkolggiaaGreatSubE
namespace Go.Dm
open Go.Proofs
theorem row0_ok : entsOk call2 219 row0 = true := by kernel_rfl
theorem row4_ok : entsOk call2 219 row4 = true := by kernel_rfl
theorem row8_ok : entsOk call2 219 row8 = true := by kernel_rfl
end Go.Dm
