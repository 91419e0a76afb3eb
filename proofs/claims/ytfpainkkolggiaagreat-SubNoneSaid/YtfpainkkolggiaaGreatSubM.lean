/- 'SubNone' answers true whatever it is given, and its arguments read behind the call as they read before. No condition. -/
import Derived.Test.YtfpainkkolggiaaGreatSubL
import Derived.Test.YtfpainkkolggiaaGreatDmH
import Derived.Test.YtfpainkkolggiaaGreatRows
import Derived.HandedShaped
namespace Go.Proofs.YtfpainkkolggiaaGreat
open Go.ChangeShapes Go.WideShapes Go.ChangeAt Go.RowKit Go.Dm
theorem own : ownKnob Tryz.prog.godebug = none := by kernel_rfl
theorem laidOut : laidOutB Tryz.prog = true := by kernel_rfl
theorem u8row {P : Program} {w : World} {r : Reach} {b0 t e : Nat} {v : Value} (ht : P.underlying t = some (.array 4 e)) (hct : P.cellTypes P.depth t = some [e, e, e, e]) (hc : P.cellsOf t = 4) (he : P.underlying e = some (.int .u8)) (h : Value.okWide P w r b0 t v) :
    ∃ a b c d : Int, v = .agg #[.int .u8 a, .int .u8 b, .int .u8 c, .int .u8 d] := by
  unfold Value.okWide at h
  rw [ht] at h
  obtain ⟨cs, rfl, hs, ts, hts, _, hall⟩ := h
  rw [hct] at hts
  cases hts
  have one : ∀ i, i < 4 → ∃ n, cs[i]? = some (.int .u8 n) := by
    intro i hi
    have hlt : i < cs.size := by omega
    obtain ⟨u, hu, hok⟩ := hall i cs[i] (Array.getElem?_eq_getElem hlt)
    have hu' : u = e := by
      have : i = 0 ∨ i = 1 ∨ i = 2 ∨ i = 3 := by omega
      rcases this with rfl | rfl | rfl | rfl <;> simpa using hu.symm
    subst hu'
    have hv : Value.okWide P w r b0 u cs[i] := by
      unfold Value.okWide
      rw [he]
      exact hok
    obtain ⟨n, hn⟩ := okWide_int he hv
    exact ⟨n, by rw [Array.getElem?_eq_getElem hlt, hn]⟩
  obtain ⟨a, ha⟩ := one 0 (by omega)
  obtain ⟨b, hb⟩ := one 1 (by omega)
  obtain ⟨c, hcc⟩ := one 2 (by omega)
  obtain ⟨d, hd⟩ := one 3 (by omega)
  refine ⟨a, b, c, d, ?_⟩
  congr 1
  apply Array.ext'
  apply List.ext_getElem?
  intro i
  rw [Array.getElem?_toList]
  rcases Nat.lt_or_ge i 4 with hi | hi
  · have : i = 0 ∨ i = 1 ∨ i = 2 ∨ i = 3 := by omega
    rcases this with rfl | rfl | rfl | rfl
    · rw [ha]; rfl
    · rw [hb]; rfl
    · rw [hcc]; rfl
    · rw [hd]; rfl
  · rw [Array.getElem?_eq_none (by omega), List.getElem?_eq_none (by simpa using hi)]
theorem call4_ok {ρ : Env} : CallOk ρ Tryz.prog (callR Tryz.prog (sumOf L4) 21) := call_sound mixed ok4 21
theorem walk6 (s : ByteArray) (a b c d : Int) (W : World) : Calls Tryz.prog 6 #[.string s, .agg #[.int .u8 a, .int .u8 b, .int .u8 c, .int .u8 d]] W fun e W' => e = .returned (.bool true) ∧ Stays W W' := by
  let ρ : Env := ⟨fun _ => 0, fun _ => []⟩
  obtain ⟨h', hh⟩ := none6 (s.data.toList.map (·.toNat)) a b c d
  refine (closed_calls (ρ := ρ) (β := fun _ => none) (w := W) (args' := #[.string s, .agg #[.int .u8 a, .int .u8 b, .int .u8 c, .int .u8 d]]) call4_ok hh rfl rfl ?_).mono fun e W' h => ?_
  · unfold args6
    simp only [VRels, VRel]
    exact ⟨_, _, rfl, ⟨s, rfl, rfl⟩, _, _, rfl, ⟨_, rfl, rfl, _, _, rfl, rfl, _, _, rfl, rfl, _, _, rfl, rfl, _, _, rfl, rfl, rfl⟩, rfl⟩
  · obtain ⟨q, rfl, hq, h1, h2, h3, h4⟩ := h
    rw [vrel_b hq]
    exact ⟨rfl, h1, h2, h3, h4⟩
set_option maxRecDepth 100000 in
theorem none_lifted (os : Os) (started : os.Started) (H : Type) (enc : TypeId × Value → H) :
    ReturnsInHanded {} Tryz.checked os 6 .any (Rows.subNoneSpec.pre6 enc Tryz.prog Tryz.f6 Rows.subNoneRow.domain false) (Rows.subNoneSpec.post enc Tryz.prog Tryz.f6 false true false false) := by
  refine returnsInHanded_of_change (C := Tryz.checked) own started (by kernel_rfl) Tryz.func6
    (ChangeSpec.witness6 (enc := enc) (C := Tryz.checked) false ⟨#[], #[.string .empty, .agg #[.int .u8 0, .int .u8 0, .int .u8 0, .int .u8 0]], []⟩ 8 (by kernel_rfl) (by kernel_rfl) (by kernel_rfl) (by kernel_rfl)) ?_
  intro W base args ds gs before hval0 hW hcnd _
  have hval : ∀ (j : Nat) t v, Tryz.f6.params[j]? = some t → args[j]? = some v → Value.okWide Tryz.prog W .any base t v := hval0
  have hW' := hW
  obtain ⟨p, q, hA0, hV, rfl, hfz, hnd⟩ := hW
  have hA : DataW.TrodAll enc Tryz.prog W 0 (fun _ => true) true Tryz.f6.params.toList args.toList ds p := hA0
  rw [Tryz.params6] at hA hval
  obtain ⟨v0, v1, d0, d1, p0, p1, rfl, rfl, rfl, h0, h1⟩ := trodAll_two hA
  obtain ⟨rfl, rfl⟩ := trodVars_none hV
  obtain ⟨s, rfl, rfl, rfl, _⟩ := ChangeMaps.open_string Tryz.underlying9 (hval 0 9 v0 rfl rfl) h0
  obtain ⟨a, b, c, d, rfl⟩ := u8row (e := 5) (t := 23) (by kernel_rfl) (by kernel_rfl) (by kernel_rfl) (by kernel_rfl) (hval 1 23 v1 rfl rfl)
  refine (walk6 s a b c d W).mono fun e W' ⟨he, hs⟩ => ⟨_, he, ?_⟩
  exact law_post laidOut (by kernel_rfl) (by kernel_rfl) Tryz.underlying4 rfl rfl hW' hs
theorem sub_none : Rows.SubNoneSaid :=
  OpenClaim.holds_of_wide 6 Tryz.f6 rfl rfl rfl rfl rfl rfl rfl ⟨rfl, rfl, rfl, rfl, rfl⟩ rfl rfl rfl rfl rfl (by kernel_rfl) Tryz.func6 (by kernel_rfl)
    (of_decide_eq_true (by kernel_rfl)) (by unfold Func.isWrapper; first | (rw [if_pos (by decide +kernel)]; kernel_rfl) | (rw [if_neg (by decide +kernel)]; exact ⟨rfl, rfl⟩))
    (fun os started H enc _ => none_lifted os started H enc)
end Go.Proofs.YtfpainkkolggiaaGreat
