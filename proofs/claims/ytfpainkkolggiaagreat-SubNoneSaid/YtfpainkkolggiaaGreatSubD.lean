/- The whole table. -/
import Derived.Test.YtfpainkkolggiaaGreatSubB
import Derived.Test.YtfpainkkolggiaaGreatSubC
namespace Go.Dm
open Go.Proofs
noncomputable def L1 : List (Nat × (List V → H → R (V × H))) := (260, memo0 qC) :: (262, memo0 qA) :: L0
theorem ok1 {ρ : Env} : SumsOk ρ Tryz.prog (sumOf L1) := sumOf_ok fun x hx => by
  simp only [L1, L0, List.mem_cons, List.not_mem_nil, or_false] at hx
  rcases hx with rfl | rfl | rfl | rfl
  · exact memo0_ok call0_ok called_q
  · exact memo0_ok call0_ok answered_q
  · exact clone113
  · exact copy261
noncomputable def call1 : CallD := callR Tryz.prog (sumOf L1) 30
theorem call1_ok {ρ : Env} : CallOk ρ Tryz.prog call1 := call_sound mixed ok1 30
theorem table_q : entOk call1 248 ⟨[], [0, 1, 2, 3, 4, 5, 6, 7, 8, 9, 10, 11, 12, 13, 14, 15, 16, 17, 18, 19, 20, 21, 22, 23, 24, 25, 26, 27, 28, 29, 30, 31, 32, 34, 35, 36, 37, 38, 39, 40, 41, 42, 43, 44, 45, 46, 47, 48, 49, 50, 51, 52, 53, 54, 55, 56, 57, 58, 59, 60, 61, 62, 63, 64, 65, 66, 67, 68, 69, 70, 71, 72, 73], qT⟩ = true := by kernel_rfl
noncomputable def L2 : List (Nat × (List V → H → R (V × H))) := (248, memo0 qT) :: L0
theorem ok2 {ρ : Env} : SumsOk ρ Tryz.prog (sumOf L2) := sumOf_ok fun x hx => by
  simp only [L2, L0, List.mem_cons, List.not_mem_nil, or_false] at hx
  rcases hx with rfl | rfl | rfl
  · exact memo0_ok call1_ok table_q
  · exact clone113
  · exact copy261
noncomputable def call2 : CallD := callR Tryz.prog (sumOf L2) 30
theorem call2_ok {ρ : Env} : CallOk ρ Tryz.prog call2 := call_sound mixed ok2 30
end Go.Dm
