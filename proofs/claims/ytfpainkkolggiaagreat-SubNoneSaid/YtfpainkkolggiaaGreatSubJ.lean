/- The next state: its summary. -/
import Derived.Test.YtfpainkkolggiaaGreatSubF
import Derived.Test.YtfpainkkolggiaaGreatSubG
import Derived.Test.YtfpainkkolggiaaGreatSubH
import Derived.Test.YtfpainkkolggiaaGreatSubI
namespace Go.Dm
open Go.Proofs
def rowsN : List (List Ent) := [row0, row1, row2, row3, row4, row5, row6, row7, row8, row9]
theorem next_ok {ρ : Env} : CallOk ρ Tryz.prog fun g args h => if g = 219 then memo2 rowsN args h else .err 0 := by
  refine memo2_ok call2_ok fun row hr => ?_
  simp only [rowsN, List.mem_cons, List.not_mem_nil, or_false] at hr
  rcases hr with rfl | rfl | rfl | rfl | rfl | rfl | rfl | rfl | rfl | rfl
  · exact row0_ok
  · exact row1_ok
  · exact row2_ok
  · exact row3_ok
  · exact row4_ok
  · exact row5_ok
  · exact row6_ok
  · exact row7_ok
  · exact row8_ok
  · exact row9_ok
noncomputable def L3 : List (Nat × (List V → H → R (V × H))) := (219, memo2 rowsN) :: L0
theorem ok3 {ρ : Env} : SumsOk ρ Tryz.prog (sumOf L3) := sumOf_ok fun x hx => by
  simp only [L3, L0, List.mem_cons, List.not_mem_nil, or_false] at hx
  rcases hx with rfl | rfl | rfl
  · exact next_ok
  · exact clone113
  · exact copy261
noncomputable def call3 : CallD := callR Tryz.prog (sumOf L3) 60
theorem call3_ok {ρ : Env} : CallOk ρ Tryz.prog call3 := call_sound mixed ok3 60
end Go.Dm
