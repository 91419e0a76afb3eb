/-
  No cell of these rows narrows 'for every input' (looked for: loops, veiled, ifaces, maps, wideKeys, modest, calm, conditions, laid).
  DERIVED. THE GIVEN ROWS OF THIS SEAT. 4 by the template 'for every input the law returns true; each argument reads behind the call as it read before'; 0 by the template 'total and deterministic' (their statements: YtfpainkkolggiaaGreatTotals.lean).
  GIVEN WITH THE SEED: the statements are not yours to turn. If you find one false, say at which input.
  Laid BY PROGRAM, IN A SANDBOX (cutbox-rows.mjs): the forced cells as the released guide's own fill.sh prints them over the translation f0ec51ac31a7930d… (all of the seat's roots in one cut). By AI agents, Wed Nov 11 2026. No macro, syntax, notation, axiom, sorry.
-/
import Derived.Test.YtfpainkkolggiaaGreatChecked
import GoSem.Claim
import GoSem.ClaimJoined
import GoSem.ClaimMapViews
import Derived.JoinedTies
import Derived.KernelRfl
namespace Go.Proofs.YtfpainkkolggiaaGreat
/- THE CELL 'sum', in the pinned program and in every row, IS THE sha256 OF THE DUMP (.gsa) THAT YtfpainkkolggiaaGreatProg.lean LOADS. Nothing in Lean hashes anything: it is a label: what it is worth is what the hold of that sum in a sandbox is worth. -/
noncomputable def Tryz.pinned : Pinned := { name := "ytfpainkkolggiaagreat", sum := "f0ec51ac31a7930d69b3433206eaa8c1d912a1e4f45541b3b683a511cf545a2c", checked := Tryz.checked }
namespace Rows
def none {H : Type} : Left H := { results := [], args := [] }

/-- 'tollgatelaw25.SubForwards': WHATEVER THE INPUT: true; the input reads as it did. -/
def subForwardsSpec : ChangeSpec := { name := "subForwards", fn := fun _ => fun
  | [d1, d2, d3, d4] => { results := [.lit (.bool true)], args := [d1, d2, d3, d4] }
  | _ => none }
def subForwardsRow : OpenClaim := { program := "ytfpainkkolggiaagreat", sum := "f0ec51ac31a7930d69b3433206eaa8c1d912a1e4f45541b3b683a511cf545a2c", func := "tollgate/tollgatelaw25.SubForwards", spec := "subForwards", unfollowed := true, recurses := true, plainKeys := false, apart := false }
def SubForwardsSaid : Prop := subForwardsRow.holds Tryz.pinned (OpenSpec.ofChange subForwardsSpec)

/-- ITS FALSE NEIGHBOUR: 'it returns false'. Refute it at one input. -/
def subForwardsWrong : ChangeSpec := { name := "subForwards", fn := fun _ => fun
  | [d1, d2, d3, d4] => { results := [.lit (.bool false)], args := [d1, d2, d3, d4] }
  | _ => none }
def SubForwardsWrongFalsely : Prop := subForwardsRow.holds Tryz.pinned (OpenSpec.ofChange subForwardsWrong)

/-- 'tollgatelaw25.SubStops': WHATEVER THE INPUT: true; the input reads as it did. -/
def subStopsSpec : ChangeSpec := { name := "subStops", fn := fun _ => fun
  | [d1, d2, d3, d4] => { results := [.lit (.bool true)], args := [d1, d2, d3, d4] }
  | _ => none }
def subStopsRow : OpenClaim := { program := "ytfpainkkolggiaagreat", sum := "f0ec51ac31a7930d69b3433206eaa8c1d912a1e4f45541b3b683a511cf545a2c", func := "tollgate/tollgatelaw25.SubStops", spec := "subStops", unfollowed := true, recurses := true, plainKeys := false, apart := false }
def SubStopsSaid : Prop := subStopsRow.holds Tryz.pinned (OpenSpec.ofChange subStopsSpec)

/-- ITS FALSE NEIGHBOUR: 'it returns false'. Refute it at one input. -/
def subStopsWrong : ChangeSpec := { name := "subStops", fn := fun _ => fun
  | [d1, d2, d3, d4] => { results := [.lit (.bool false)], args := [d1, d2, d3, d4] }
  | _ => none }
def SubStopsWrongFalsely : Prop := subStopsRow.holds Tryz.pinned (OpenSpec.ofChange subStopsWrong)

/-- 'tollgatelaw25.SubLost': WHATEVER THE INPUT: true; the input reads as it did. -/
def subLostSpec : ChangeSpec := { name := "subLost", fn := fun _ => fun
  | [d1, d2, d3, d4] => { results := [.lit (.bool true)], args := [d1, d2, d3, d4] }
  | _ => none }
def subLostRow : OpenClaim := { program := "ytfpainkkolggiaagreat", sum := "f0ec51ac31a7930d69b3433206eaa8c1d912a1e4f45541b3b683a511cf545a2c", func := "tollgate/tollgatelaw25.SubLost", spec := "subLost", unfollowed := true, recurses := true, plainKeys := false, apart := false }
def SubLostSaid : Prop := subLostRow.holds Tryz.pinned (OpenSpec.ofChange subLostSpec)

/-- ITS FALSE NEIGHBOUR: 'it returns false'. Refute it at one input. -/
def subLostWrong : ChangeSpec := { name := "subLost", fn := fun _ => fun
  | [d1, d2, d3, d4] => { results := [.lit (.bool false)], args := [d1, d2, d3, d4] }
  | _ => none }
def SubLostWrongFalsely : Prop := subLostRow.holds Tryz.pinned (OpenSpec.ofChange subLostWrong)

/-- 'tollgatelaw25.SubNone': WHATEVER THE INPUT: true; the input reads as it did. -/
def subNoneSpec : ChangeSpec := { name := "subNone", fn := fun _ => fun
  | [d1, d2] => { results := [.lit (.bool true)], args := [d1, d2] }
  | _ => none }
def subNoneRow : OpenClaim := { program := "ytfpainkkolggiaagreat", sum := "f0ec51ac31a7930d69b3433206eaa8c1d912a1e4f45541b3b683a511cf545a2c", func := "tollgate/tollgatelaw25.SubNone", spec := "subNone", unfollowed := true, recurses := true, plainKeys := false, apart := false }
def SubNoneSaid : Prop := subNoneRow.holds Tryz.pinned (OpenSpec.ofChange subNoneSpec)

/-- ITS FALSE NEIGHBOUR: 'it returns false'. Refute it at one input. -/
def subNoneWrong : ChangeSpec := { name := "subNone", fn := fun _ => fun
  | [d1, d2] => { results := [.lit (.bool false)], args := [d1, d2] }
  | _ => none }
def SubNoneWrongFalsely : Prop := subNoneRow.holds Tryz.pinned (OpenSpec.ofChange subNoneWrong)

/- THE SECOND FORM. 'bulk': how many values and letters a reading holds, each counted each time it is reached (what is shared counts as often as it is met; a slice's spare places count too). A statement '..UptoSaid' is the law's where the arguments, and the package variables that the reading takes, are together of bulk at most 1048576: NARROWER than '..Said'. Prove '..Said' where nothing that the law and all that it calls make is longer than what came in: it says more and counts as full. Else prove '..UptoSaid'. A law counts once. -/
mutual
def uptoBulk {H : Type} : DataW H → Nat
  | .lit (.string bytes) => bytes.length + 1
  | .lit _ => 1
  | .nil => 1
  | .ptr d => uptoBulk d + 1
  | .slice elems spare => uptoBulkAll elems + uptoBulkAll spare + 1
  | .agg parts => uptoBulkAll parts + 1
  | .iface _ d => uptoBulk d + 1
  | .map entries => uptoBulkEntries entries + 1
  | .held _ => 1
def uptoBulkAll {H : Type} : List (DataW H) → Nat
  | [] => 0
  | d :: r => uptoBulk d + uptoBulkAll r
def uptoBulkEntries {H : Type} : List (Lit × DataW H) → Nat
  | [] => 0
  | x :: r => uptoBulkEntry x + uptoBulkEntries r
def uptoBulkEntry {H : Type} : Lit × DataW H → Nat
  | (.string bytes, d) => bytes.length + uptoBulk d + 1
  | (_, d) => uptoBulk d + 1
 end
def uptoSmall : (H : Type) → List (DataW H) → Bool := fun _ ds => decide (uptoBulkAll ds ≤ 1048576)
def OpenSpec.upto (s : _root_.Go.ChangeSpec) : _root_.Go.OpenSpec := { _root_.Go.OpenSpec.ofChange s with cond := some uptoSmall }

/-- 'tollgatelaw25.SubForwards', WHERE WHAT IT READS IS OF BULK AT MOST 1048576: true; the input reads as it did. -/
def subForwardsUptoRow : OpenClaim := { program := "ytfpainkkolggiaagreat", sum := "f0ec51ac31a7930d69b3433206eaa8c1d912a1e4f45541b3b683a511cf545a2c", func := "tollgate/tollgatelaw25.SubForwards", spec := "subForwards", unfollowed := true, recurses := true, plainKeys := false, apart := false, narrowed := true }
def SubForwardsUptoSaid : Prop := subForwardsUptoRow.holds Tryz.pinned (OpenSpec.upto subForwardsSpec)

/-- 'tollgatelaw25.SubStops', WHERE WHAT IT READS IS OF BULK AT MOST 1048576: true; the input reads as it did. -/
def subStopsUptoRow : OpenClaim := { program := "ytfpainkkolggiaagreat", sum := "f0ec51ac31a7930d69b3433206eaa8c1d912a1e4f45541b3b683a511cf545a2c", func := "tollgate/tollgatelaw25.SubStops", spec := "subStops", unfollowed := true, recurses := true, plainKeys := false, apart := false, narrowed := true }
def SubStopsUptoSaid : Prop := subStopsUptoRow.holds Tryz.pinned (OpenSpec.upto subStopsSpec)

/-- 'tollgatelaw25.SubLost', WHERE WHAT IT READS IS OF BULK AT MOST 1048576: true; the input reads as it did. -/
def subLostUptoRow : OpenClaim := { program := "ytfpainkkolggiaagreat", sum := "f0ec51ac31a7930d69b3433206eaa8c1d912a1e4f45541b3b683a511cf545a2c", func := "tollgate/tollgatelaw25.SubLost", spec := "subLost", unfollowed := true, recurses := true, plainKeys := false, apart := false, narrowed := true }
def SubLostUptoSaid : Prop := subLostUptoRow.holds Tryz.pinned (OpenSpec.upto subLostSpec)

/-- 'tollgatelaw25.SubNone', WHERE WHAT IT READS IS OF BULK AT MOST 1048576: true; the input reads as it did. -/
def subNoneUptoRow : OpenClaim := { program := "ytfpainkkolggiaagreat", sum := "f0ec51ac31a7930d69b3433206eaa8c1d912a1e4f45541b3b683a511cf545a2c", func := "tollgate/tollgatelaw25.SubNone", spec := "subNone", unfollowed := true, recurses := true, plainKeys := false, apart := false, narrowed := true }
def SubNoneUptoSaid : Prop := subNoneUptoRow.holds Tryz.pinned (OpenSpec.upto subNoneSpec)

end Rows
end Go.Proofs.YtfpainkkolggiaaGreat
