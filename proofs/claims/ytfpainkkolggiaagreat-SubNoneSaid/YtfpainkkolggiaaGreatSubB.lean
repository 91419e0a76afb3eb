/- A table of the automaton: what the ends do. -/
import Derived.Test.YtfpainkkolggiaaGreatSubA
namespace Go.Dm
open Go.Proofs
theorem called_q : entOk call0 260 ⟨[], [0, 1, 2, 3, 4, 5, 6, 7, 8, 9, 10, 11, 12, 13, 14, 15, 16, 17, 18, 19, 20, 21, 22, 23, 24, 25, 26, 27, 28, 29, 30, 31, 32], qC⟩ = true := by kernel_rfl
end Go.Dm
