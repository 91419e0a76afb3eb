/- The first call, whose answer the document fixes. -/
import Derived.Test.YtfpainkkolggiaaGreatSubJ
namespace Go.Dm
open Go.Proofs
theorem alive_q : entOk call3 7 ⟨[], [], (.b true, [])⟩ = true := by kernel_rfl
end Go.Dm
