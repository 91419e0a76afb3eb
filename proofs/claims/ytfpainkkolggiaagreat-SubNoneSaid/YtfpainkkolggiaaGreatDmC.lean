/- Slices, built values, conversions; then all operations that look at no memory. -/
import Derived.Test.YtfpainkkolggiaaGreatDmB
import Derived.Laws.Tables
import Derived.Laws.BytesString
import Derived.Laws.MakeOwn
import Derived.Laws.IdiomStrings
import Derived.Laws.Append
namespace Go.Dm
variable {ρ : Env} {β : B} {P : Program}

/-- an operand that may be absent -/
def ORel (ρ : Env) (β : B) : Option V → Option Value → Prop
  | none, v => v = none
  | some x, v => ∃ u, v = some u ∧ VRel ρ β x u
theorem bounds_sound {len cap : Nat} {lo hi : Option V} {r : Nat × Nat} (h : boundsR len cap lo hi = .ok r) {l' h' : Option Value} (hl : ORel ρ β lo l') (hh : ORel ρ β hi h') (isSlice : Bool) (w : World) :
    (Instr.sliceBounds isSlice len cap l' h' none).run P w = .ok (r.1, r.2, cap) w ∧ r.1 ≤ r.2 ∧ r.2 ≤ cap := by
  unfold boundsR at h
  obtain ⟨b, hb, h⟩ := R.bind_ok h
  obtain ⟨a, ha, h⟩ := R.bind_ok h
  obtain ⟨hc, h⟩ := cond_ok h
  cases h
  simp only [ble_eq, Bool.and_eq_true, decide_eq_true_eq] at hc
  obtain ⟨c1, c2⟩ := hc
  refine ⟨?_, c2, c1⟩
  have sb : ∀ (k : IntKind) (x y : Nat) (code : BoundsCode), x ≤ y → (Instr.sliceBound (.int k x) y code).run P w = .ok x w := by
    intro k x y code hxy
    have : 0 ≤ (x : Int) ∧ (x : Int) ≤ (y : Int) := ⟨by omega, by omega⟩
    simp only [Instr.sliceBound, Sem.run_bind, run_asIntOf, Result.andThen_ok, this, and_self, if_true, Sem.run_pure, Int.toNat_natCast]
  cases hi with
  | none =>
    simp only [ORel] at hh
    subst hh
    cases hb
    cases lo with
    | none =>
      simp only [ORel] at hl
      subst hl
      cases ha
      simp only [Instr.sliceBounds, Sem.run_bind, Sem.run_pure, Result.andThen_ok]
    | some y =>
      simp only [ORel] at hl
      obtain ⟨u, rfl, hy⟩ := hl
      obtain ⟨k3, rfl⟩ := toNatR_ok ha
      rw [vrel_i hy]
      simp only [Instr.sliceBounds, Sem.run_bind, Sem.run_pure, Result.andThen_ok, sb _ _ _ _ c2]
  | some x =>
    simp only [ORel] at hh
    obtain ⟨u, rfl, hx⟩ := hh
    obtain ⟨kk, rfl⟩ := toNatR_ok hb
    rw [vrel_i hx]
    cases lo with
    | none =>
      simp only [ORel] at hl
      subst hl
      cases ha
      simp only [Instr.sliceBounds, Sem.run_bind, Sem.run_pure, Result.andThen_ok, sb _ _ _ _ c1]
    | some y =>
      simp only [ORel] at hl
      obtain ⟨u, rfl, hy⟩ := hl
      obtain ⟨k3, rfl⟩ := toNatR_ok ha
      rw [vrel_i hy]
      simp only [Instr.sliceBounds, Sem.run_bind, Sem.run_pure, Result.andThen_ok, sb _ _ _ _ c1, sb _ _ _ _ c2]
/-- with a third bound -/
theorem bounds3_sound {len cap m : Nat} {lo hi : Option V} {r : Nat × Nat} (h : boundsR len m lo hi = .ok r) (hm : m ≤ cap) (hhi : hi.isSome = true) {k : IntKind} {l' h' : Option Value} (hl : ORel ρ β lo l') (hh : ORel ρ β hi h') (w : World) :
    (Instr.sliceBounds true len cap l' h' (some (.int k m))).run P w = .ok (r.1, r.2, m) w ∧ r.1 ≤ r.2 ∧ r.2 ≤ m := by
  unfold boundsR at h
  obtain ⟨b, hb, h⟩ := R.bind_ok h
  obtain ⟨a, ha, h⟩ := R.bind_ok h
  obtain ⟨hc, h⟩ := cond_ok h
  cases h
  simp only [ble_eq, Bool.and_eq_true, decide_eq_true_eq] at hc
  obtain ⟨c1, c2⟩ := hc
  refine ⟨?_, c2, c1⟩
  cases hi with
  | none => cases hhi
  | some x =>
    simp only [ORel] at hh
    obtain ⟨u, rfl, hx⟩ := hh
    obtain ⟨kk, rfl⟩ := toNatR_ok hb
    rw [vrel_i hx]
    have e1 : 0 ≤ (m : Int) ∧ (m : Int) ≤ (cap : Int) := ⟨by omega, by omega⟩
    have e2 : 0 ≤ (b : Int) ∧ (b : Int) ≤ (m : Int) := ⟨by omega, by omega⟩
    cases lo with
    | none =>
      simp only [ORel] at hl
      subst hl
      cases ha
      simp only [Instr.sliceBounds, Instr.sliceBound, Sem.run_bind, run_asIntOf, Result.andThen_ok, e1, e2, and_self, if_true, Sem.run_pure, Int.toNat_natCast]
    | some y =>
      simp only [ORel] at hl
      obtain ⟨u, rfl, hy⟩ := hl
      obtain ⟨k3, rfl⟩ := toNatR_ok ha
      rw [vrel_i hy]
      have e3 : 0 ≤ (a : Int) ∧ (a : Int) ≤ (b : Int) := ⟨by omega, by omega⟩
      simp only [Instr.sliceBounds, Instr.sliceBound, Sem.run_bind, run_asIntOf, Result.andThen_ok, e1, e2, e3, and_self, if_true, Sem.run_pure, Int.toNat_natCast]
theorem capRel_ge {z o c n : Nat} {cap : Cap} (h : capRel z o c cap) (hn : n ≤ capOf cap) : n ≤ c := by
  cases cap <;> simp only [capRel, capOf] at h hn <;> omega
theorem slice_sound {t : Nat} {x r : V} {lo hi mx : Option V} (h : sliceV P t x lo hi mx = .ok r) {v : Value} {l' h' m' : Option Value} (hx : VRel ρ β x v) (hl : ORel ρ β lo l') (hh : ORel ρ β hi h') (hm : ORel ρ β mx m') (w : World) :
    ∃ q, (Instr.sliceAt t v l' h' m').run P w = .ok q w ∧ VRel ρ β r q := by
  unfold sliceV at h
  split at h
  · -- a text
    obtain ⟨hk, h⟩ := cond_ok h
    have hu := isStr_ok hk
    obtain ⟨s, rfl, rfl⟩ := vrel_s hx
    unfold sliceS at h
    split at h
    · simp only [ORel] at hm
      subst hm
      obtain ⟨rr, hr, h⟩ := R.bind_ok h
      obtain ⟨l, hl2, h⟩ := R.bind_ok h
      cases h
      rw [dropN_eq] at hl2
      obtain ⟨rfl, hlen⟩ := takeR_ok hl2
      have hsz : lenN (s.data.toList.map (·.toNat)) 0 = s.size := by rw [lenN_eq, ← size_of (rfl : s.data.toList.map (·.toNat) = _)]; rfl
      rw [hsz] at hr
      obtain ⟨e, h1, h2⟩ := bounds_sound (P := P) hr hl hh false w
      refine ⟨.string (s.extract rr.1 rr.2), ?_, vrel_mk_s ?_⟩
      · simp only [Instr.sliceAt, Instr.slice, Sem.run_bind, run_underlying hu, Result.andThen_ok, Option.isSome_none, Bool.false_eq_true, if_false, e, Sem.run_pure]
      · have : (s.extract rr.1 rr.2).data.toList = (s.data.toList.drop rr.1).take (rr.2 - rr.1) := by simp [ByteArray.data_extract]
        rw [this, List.map_take, List.map_drop]
        rfl
    · cases h
  · -- nil
    obtain ⟨es, hes, h⟩ := R.bind_ok h
    unfold tSliceSize at hes
    obtain ⟨e, he, hes⟩ := R.bind_ok hes
    have hu := tSlice_ok he
    have : v = .slice none 0 0 := by simpa [VRel] using hx
    subst this
    unfold sliceN at h
    split at h
    · simp only [ORel] at hm
      subst hm
      obtain ⟨rr, hr, h⟩ := R.bind_ok h
      cases h
      obtain ⟨eb, h1, h2⟩ := bounds_sound (P := P) hr hl hh true w
      refine ⟨.slice none 0 0, ?_, by simp [VRel]⟩
      have z1 : rr.1 = 0 := by omega
      have z2 : rr.2 = 0 := by omega
      simp only [Instr.sliceAt, Instr.slice, Sem.run_bind, run_underlying hu, Result.andThen_ok, eb, run_size hes, z1, z2, Sem.run_pure]
      rfl
    · cases h
  · -- a slice
    rename_i b off len cap
    obtain ⟨es, hes, h⟩ := R.bind_ok h
    obtain ⟨hce, h⟩ := cond_ok h
    unfold tSliceSize at hes
    obtain ⟨e, he, hes⟩ := R.bind_ok hes
    have hu := tSlice_ok he
    simp only [VRel] at hx
    obtain ⟨m, o, z, o', c, hb, rfl, ho, hlen, hcap⟩ := hx
    unfold sliceL at h
    split at h
    · simp only [ORel] at hm
      subst hm
      obtain ⟨rr, hr, h⟩ := R.bind_ok h
      cases h
      have hr' : boundsR len c lo hi = .ok rr := by
        unfold boundsR at hr ⊢
        obtain ⟨b2, hb2, hr⟩ := R.bind_ok hr
        obtain ⟨a2, ha2, hr⟩ := R.bind_ok hr
        obtain ⟨hc2, hr⟩ := cond_ok hr
        rw [hb2]
        simp only [R.bind]
        rw [ha2]
        simp only [ble_eq, Bool.and_eq_true, decide_eq_true_eq] at hc2 ⊢
        have := capRel_ge hcap hc2.1
        simp [this, hc2.2]
        injection hr
      obtain ⟨eb, h1, h2⟩ := bounds_sound (P := P) hr' hl hh true w
      have hge : rr.2 ≤ capOf cap := by
        unfold boundsR at hr
        obtain ⟨b2, hb2, hr⟩ := R.bind_ok hr
        obtain ⟨a2, ha2, hr⟩ := R.bind_ok hr
        obtain ⟨hc2, hr⟩ := cond_ok hr
        simp only [ble_eq, Bool.and_eq_true, decide_eq_true_eq] at hc2
        cases hr
        exact hc2.1
      refine ⟨.slice (if c = rr.1 then some ⟨m, o', none⟩ else some ⟨m, o' + rr.1 * es, none⟩) (rr.2 - rr.1) (c - rr.1), ?_, ?_⟩
      · simp only [Instr.sliceAt, Instr.slice, Sem.run_bind, run_underlying hu, Result.andThen_ok, eb, run_size hes, Sem.run_pure, Option.map_some, add_none]
      · simp only [VRel]
        by_cases hcr : c = rr.1
        · rw [if_pos hcr]
          refine ⟨m, o, z, o', c - rr.1, hb, rfl, .inr (by omega), (by show rr.2 - rr.1 ≤ _; omega), ?_⟩
          cases cap with
          | ex n => simp only [capRel, capSub] at hcap ⊢; subst hcap; rfl
          | lo n e2 =>
            simp only [capRel, capSub] at hcap ⊢
            have : c - rr.1 = 0 := by omega
            rw [this]
            simp only [capOf] at hge
            refine ⟨by show n - rr.1 ≤ 0; omega, ?_⟩
            have h3 := hcap.2
            have : o' ≤ z := by
              have := Nat.le_add_right o' (c * e2)
              omega
            simpa using this
        · rw [if_neg hcr]
          refine ⟨m, o, z, o' + rr.1 * es, c - rr.1, hb, rfl, ?_, (by show rr.2 - rr.1 ≤ _; omega), ?_⟩
          · rcases ho with ho | ho
            · left; subst ho; show o + off + rr.1 * es = o + (off + rr.1 * es); omega
            · right; omega
          · cases cap with
            | ex n => simp only [capRel, capSub] at hcap ⊢; subst hcap; rfl
            | lo n e2 =>
              simp only [capRel, capSub] at hcap ⊢
              simp only [capEs] at hce
              have he2 := Nat.eq_of_beq_eq_true hce
              subst he2
              refine ⟨by show n - rr.1 ≤ c - rr.1; omega, ?_⟩
              have h3 := hcap.2
              have : rr.1 * e2 + (c - rr.1) * e2 = c * e2 := by rw [← Nat.add_mul]; congr 1; omega
              omega
    · rename_i mm
      simp only [ORel] at hm
      obtain ⟨u, rfl, hmu⟩ := hm
      obtain ⟨mn, hmn, h⟩ := R.bind_ok h
      obtain ⟨k, rfl⟩ := toNatR_ok hmn
      rw [vrel_i hmu]
      obtain ⟨hc3, h⟩ := cond_ok h
      obtain ⟨rr, hr, h⟩ := R.bind_ok h
      cases h
      simp only [ble_eq, Bool.and_eq_true, decide_eq_true_eq] at hc3
      have hmc := capRel_ge hcap hc3.1
      obtain ⟨eb, h1, h2⟩ := bounds3_sound (P := P) hr hmc hc3.2 (k := k) hl hh w
      refine ⟨.slice (if mn = rr.1 then some ⟨m, o', none⟩ else some ⟨m, o' + rr.1 * es, none⟩) (rr.2 - rr.1) (mn - rr.1), ?_, ?_⟩
      · simp only [Instr.sliceAt, Instr.slice, Sem.run_bind, run_underlying hu, Result.andThen_ok, eb, run_size hes, Sem.run_pure, Option.map_some, add_none]
      · simp only [VRel]
        by_cases hcr : mn = rr.1
        · rw [if_pos hcr]
          exact ⟨m, o, z, o', mn - rr.1, hb, rfl, .inr (by omega), (by show rr.2 - rr.1 ≤ _; omega), rfl⟩
        · rw [if_neg hcr]
          refine ⟨m, o, z, o' + rr.1 * es, mn - rr.1, hb, rfl, ?_, (by show rr.2 - rr.1 ≤ _; omega), rfl⟩
          rcases ho with ho | ho
          · left; subst ho; show o + off + rr.1 * es = o + (off + rr.1 * es); omega
          · right; omega
  · -- an array
    rename_i b off
    obtain ⟨y, hy, h⟩ := R.bind_ok h
    obtain ⟨m, o, z, hb, rfl⟩ := vrel_p hx
    unfold sliceArr at h
    split at h
    case h_2 => cases h
    simp only [ORel] at hm
    subst hm
    obtain ⟨rr, hr, h⟩ := R.bind_ok h
    cases h
    obtain ⟨eb, h1, h2⟩ := bounds_sound (P := P) hr hl hh false w
    refine ⟨.slice (some (if y.1 = rr.1 then ⟨m, o + off, none⟩ else ⟨m, o + off + rr.1 * y.2, none⟩)) (rr.2 - rr.1) (y.1 - rr.1), ?_, ?_⟩
    · unfold arrOf at hy
      split at hy
      · obtain ⟨e, hu, hs⟩ := tArraySize_ok hy
        simp only [Instr.sliceAt, Sem.run_bind, run_underlying hu, Result.andThen_ok, Instr.sureAddr, eb, run_size hs, Sem.run_pure, add_none]
      · rename_i e hu
        unfold tPtrArraySize at hy
        rw [hu] at hy
        obtain ⟨e2, hu2, hs⟩ := tArraySize_ok hy
        simp only [Instr.sliceAt, Instr.slice, Sem.run_bind, run_underlying hu, run_underlying hu2, Result.andThen_ok, asAddr, eb, run_size hs, Sem.run_pure, add_none]
      · cases hy
    · simp only [VRel]
      by_cases hcr : y.1 = rr.1
      · rw [if_pos hcr]
        exact ⟨m, o, z, o + off, y.1 - rr.1, hb, rfl, .inr (by omega), (by show rr.2 - rr.1 ≤ _; omega), rfl⟩
      · rw [if_neg hcr]
        exact ⟨m, o, z, o + off + rr.1 * y.2, y.1 - rr.1, hb, rfl, .inl (by show o + off + rr.1 * y.2 = o + (off + rr.1 * y.2); omega), (by show rr.2 - rr.1 ≤ _; omega), rfl⟩
  · cases h
end Go.Dm
namespace Go.Dm
variable {ρ : Env} {β : B} {P : Program}

-- CONSTANTS
theorem cellOf_sound {v : Value} {x : V} (h : cellOf v = .ok x) : atom x = true ∧ VRel ρ β x v := by
  unfold cellOf at h
  split at h
  case h_7 =>
    obtain ⟨h1, h2⟩ := cond_ok h
    cases h2
    rename_i f first cap
    simp only [Bool.and_eq_true] at h1
    have e1 := Nat.eq_of_beq_eq_true h1.1
    have e2 := Nat.eq_of_beq_eq_true h1.2
    refine ⟨rfl, ?_⟩
    simp only [VRel, VRels]
    exact ⟨first, cap, rfl, by simpa using e1, by simpa using e2⟩
  all_goals first
    | (cases h; exact ⟨rfl, by simp [VRel]⟩)
    | cases h
theorem cells_sound {cs : List Value} {l : List V} (h : mapR cellOf cs = .ok l) : atoms l = true ∧ VRels ρ β l cs := by
  obtain ⟨h1, h2⟩ := mapR_ok h
  refine ⟨List.all_eq_true.2 fun x hx => ?_, VRels.mk h1 fun i x v hx hv => (cellOf_sound (h2 i v x hv hx)).2⟩
  obtain ⟨i, hi⟩ := List.getElem?_of_mem hx
  have hlt : i < l.length := (List.getElem?_eq_some_iff.1 hi).1
  exact (cellOf_sound (ρ := ⟨fun _ => 0, fun _ => []⟩) (β := fun _ => none) (h2 i _ x (List.getElem?_eq_getElem (by omega)) hi)).1
theorem ofValue_sound {v : Value} {x : V} (h : ofValue v = .ok x) : VRel ρ β x v := by
  unfold ofValue at h
  split at h
  · obtain ⟨l, hl, h⟩ := R.bind_ok h
    cases h
    obtain ⟨h1, h2⟩ := cells_sound (ρ := ρ) (β := β) hl
    simp only [VRel]
    exact ⟨_, rfl, h1, h2⟩
  · obtain ⟨l, hl, h⟩ := R.bind_ok h
    cases h
    obtain ⟨h1, h2⟩ := cells_sound (ρ := ρ) (β := β) hl
    simp only [VRel]
    exact ⟨_, rfl, h2⟩
  · exact (cellOf_sound h).2
/-- slots -/
def ARel (ρ : Env) (β : B) (t : T V) (tmps : Array Value) : Prop := ∀ i x, t.get i = some x → ∃ v, tmps[i]? = some v ∧ VRel ρ β x v
theorem ARel.mono {β β' : B} (hl : β.le β') {t : T V} {tmps : Array Value} (h : ARel ρ β t tmps) : ARel ρ β' t tmps := fun i x hx => by
  obtain ⟨v, h1, h2⟩ := h i x hx
  exact ⟨v, h1, VRel.mono hl _ _ h2⟩
theorem evalO_sound {t : T V} {a : Go.Act} (h : ARel ρ β t a.tmps) {o : Operand} {x : V} (e : evalO t o = .ok x) : VRel ρ β x (a.eval o) := by
  unfold evalO at e
  split at e
  · obtain ⟨v, h1, h2⟩ := h _ _ (ofOpt_ok e)
    simp only [Go.Act.eval, Array.getD_eq_getD_getElem?, h1, Option.getD_some]
    exact h2
  · exact ofValue_sound e
  · cases e
    simp only [VRel, VRels, Go.Act.eval]
    exact ⟨#[], #[], rfl, rfl, rfl⟩
  · cases e

-- PARTS
def PRel (ρ : Env) (β : B) : List (Nat × V) → List (Nat × Value) → Prop
  | [], l => l = []
  | p :: ps, l => ∃ q qs, l = q :: qs ∧ q.1 = p.1 ∧ VRel ρ β p.2 q.2 ∧ PRel ρ β ps qs
theorem fold_toList (off : Nat) : ∀ (vs : List Value) (k : Nat) (cs : Array Value), off + k + vs.length ≤ cs.size →
    ((vs.zipIdx k).foldl (fun (cs : Array Value) (x : Value × Nat) => cs.setIfInBounds (off + x.2) x.1) cs).toList = cs.toList.take (off + k) ++ vs ++ cs.toList.drop (off + k + vs.length)
  | [], k, cs, _ => by simp
  | v :: vs, k, cs, h => by
    simp at h
    rw [List.zipIdx_cons, List.foldl_cons, fold_toList off vs (k + 1) _ (by simp; omega)]
    simp only [Array.toList_setIfInBounds]
    have e1 : (cs.toList.set (off + k) v).take (off + (k + 1)) = cs.toList.take (off + k) ++ [v] := by
      rw [show off + (k + 1) = off + k + 1 by omega, List.take_succ_eq_append_getElem (by simp; omega), List.take_set, List.set_eq_of_length_le (by simp; omega)]
      simp
    have e2 : (cs.toList.set (off + k) v).drop (off + (k + 1) + vs.length) = cs.toList.drop (off + k + (v :: vs).length) := by
      rw [List.drop_set, if_pos (by omega)]
      congr 1
      simp
      omega
    rw [e1, e2]
    simp
theorem fill_sound {place : Nat → R (Nat × Nat)} {place' : Nat → Option (Nat × Nat)} (hp : ∀ i y, place i = .ok y → place' i = some y) : ∀ {ps : List (Nat × V)} {qs : List (Nat × Value)} {c c' : List V} {mc : Array Value},
    fillR place c ps = .ok c' → PRel ρ β ps qs → atoms c = true → VRels ρ β c mc.toList → ∃ mc', Instr.fill place' mc qs = some mc' ∧ atoms c' = true ∧ VRels ρ β c' mc'.toList
  | [], qs, c, c', mc, h, hq, ha, hc => by
    simp only [PRel] at hq
    subst hq
    simp only [fillR] at h
    cases h
    exact ⟨mc, rfl, ha, hc⟩
  | (i, x) :: ps, qs, c, c', mc, h, hq, ha, hc => by
    simp only [PRel] at hq
    obtain ⟨⟨i', v⟩, qs, rfl, rfl, hv, hq⟩ := hq
    simp only [fillR] at h
    obtain ⟨y, hy, h⟩ := R.bind_ok h
    obtain ⟨h1, h⟩ := cond_ok h
    obtain ⟨c₁, hc₁, h⟩ := R.bind_ok h
    simp only [Bool.and_eq_true, lenN_eq] at h1
    have hsz := Nat.eq_of_beq_eq_true h1.2
    simp only [Nat.add_zero] at hsz
    obtain ⟨ha₁, hv₁⟩ := cells_of h1.1 hv
    obtain ⟨e1, e2⟩ := putR_ok hc₁
    have l1 := hv₁.length
    have l2 := hc.length
    simp only [Array.length_toList] at l1 l2
    have hfold := fold_toList y.1 v.cells.toList 0 mc (by simp; omega)
    have hsize : ¬ (v.cells.size ≠ y.2 ∨ y.1 + v.cells.size > mc.size) := by omega
    simp only [Instr.fill, hp _ _ hy]
    have hc2 : (decide (v.cells.size ≠ y.2) || decide (y.1 + v.cells.size > mc.size)) = false := by simp; omega
    rw [hc2]
    simp only [Bool.false_eq_true, if_false]
    refine fill_sound hp h hq ?_ ?_
    · rw [e1]
      simp only [atoms, List.all_append, Bool.and_eq_true] at ha ha₁ ⊢
      exact ⟨⟨List.all_eq_true.2 fun x hx => List.all_eq_true.1 ha x (List.mem_of_mem_take hx), ha₁⟩, List.all_eq_true.2 fun x hx => List.all_eq_true.1 ha x (List.mem_of_mem_drop hx)⟩
    · rw [← Array.foldl_toList, Array.toList_zipIdx, hfold, e1]
      simp only [Nat.add_zero]
      have := ((hc.take y.1).append hv₁).append (hc.drop (y.1 + (cellsOfV x).length))
      rw [l1] at this
      simpa [l1] using this
theorem parts_sound {ev : Operand → R V} {re : Operand → Value} (hev : ∀ o x, ev o = .ok x → VRel ρ β x (re o)) : ∀ {ps : List (Nat × Operand)} {r : List (Nat × V)}, partsR ev ps = .ok r → PRel ρ β r (ps.map fun p => (p.1, re p.2))
  | [], r, h => by simp only [partsR] at h; cases h; simp [PRel]
  | (i, o) :: ps, r, h => by
    simp only [partsR] at h
    obtain ⟨v, hv, h⟩ := R.bind_ok h
    obtain ⟨l, hl, h⟩ := R.bind_ok h
    cases h
    simp only [List.map_cons, PRel]
    exact ⟨_, _, rfl, rfl, hev _ _ hv, parts_sound hev hl⟩
theorem tZero_ok {t : Nat} {z : V} (h : tZero P t = .ok z) : ∃ i v, P.info? t = some i ∧ i.zero = some v ∧ VRel ρ β z v := by
  unfold tZero at h
  cases hi : P.info? t with
  | none => rw [hi] at h; cases h
  | some i =>
    rw [hi] at h
    obtain ⟨_, _, _, _, _, _, _, zero, _, _⟩ := i
    cases zero with
    | none => cases h
    | some v => exact ⟨_, v, rfl, rfl, ofValue_sound h⟩
theorem places_mapM : ∀ {fl : List Field} {l : List (Nat × Nat)}, mapR (fun (f : Field) => (tSize P f.type).bind fun s => .ok (f.offset, s)) fl = .ok l →
    fl.mapM (fun f => (P.info? f.type).map fun i => (f.offset, i.size)) = some l
  | [], l, h => by simp [mapR] at h; subst h; rfl
  | f :: fl, l, h => by
    obtain ⟨b, bs, h1, h2, rfl⟩ := mapR_cons h
    obtain ⟨s, hs, h1⟩ := R.bind_ok h1
    cases h1
    obtain ⟨j, hj, rfl⟩ := tSize_ok hs
    rw [List.mapM_cons, hj, places_mapM h2]
    rfl
theorem build_sound {t : Nat} {ps : List (Nat × V)} {qs : List (Nat × Value)} {r : V} (h : buildV P t ps = .ok r) (hq : PRel ρ β ps qs) (w : World) : ∃ q, (Instr.build t qs.toArray).run P w = .ok q w ∧ VRel ρ β r q := by
  unfold buildV at h
  obtain ⟨z, hz, h⟩ := R.bind_ok h
  obtain ⟨l, hl, h⟩ := R.bind_ok h
  obtain ⟨hk, h⟩ := cond_ok h
  obtain ⟨c, hc, h⟩ := R.bind_ok h
  cases h
  obtain ⟨i, zv, hi, hzv, hzr⟩ := tZero_ok (ρ := ρ) (β := β) hz
  obtain ⟨ha, hzr⟩ := cells_of hk hzr
  have key : ∀ place', (∀ i y, placeIn l i = .ok y → place' i = some y) → ∃ mc', Instr.fill place' zv.cells qs = some mc' ∧ atoms c = true ∧ VRels ρ β c mc'.toList := fun place' hp => fill_sound hp hc hq ha hzr
  have fin : ∀ mc', P.built t qs = some mc' → atoms c = true → VRels ρ β c mc'.toList → ∃ q, (Instr.build t qs.toArray).run P w = .ok q w ∧ VRel ρ β (.ag c) q := by
    intro mc' hb ha hr
    refine ⟨.agg mc', run_build w t _ _ (by simpa using hb), ?_⟩
    simp only [VRel]
    exact ⟨_, rfl, ha, hr⟩
  unfold tPlaces at hl
  split at hl
  · rename_i fs hu
    have hm := places_mapM hl
    obtain ⟨mc', h1, h2, h3⟩ := key (l.toArray[·]?) (fun i y hy => by
      have := ofOpt_ok hy
      rw [nth_eq] at this
      simpa using this)
    exact fin mc' (by unfold Program.built; simp only [hi, hu, hzv, hm]; exact h1) h2 h3
  · rename_i n e hu
    obtain ⟨s, hs, hl⟩ := R.bind_ok hl
    cases hl
    obtain ⟨j, hj, rfl⟩ := tSize_ok hs
    obtain ⟨mc', h1, h2, h3⟩ := key (fun i => some (i * j.size, j.size)) (fun i y hy => by
      have := ofOpt_ok hy
      rw [nth_eq, List.getElem?_map] at this
      cases hr : (List.range n)[i]? with
      | none => rw [hr] at this; cases this
      | some k =>
        rw [hr] at this
        have hk := List.getElem?_eq_some_iff.1 hr
        obtain ⟨_, hk⟩ := hk
        simp at hk
        subst hk
        simpa using this)
    exact fin mc' (by unfold Program.built; simp only [hi, hu, hzv, hj]; exact h1) h2 h3
  · cases hl
end Go.Dm
namespace Go.Dm
variable {ρ : Env} {β : B} {P : Program}

theorem mapR_rel {ev : Operand → R V} {re : Operand → Value} (hev : ∀ o x, ev o = .ok x → VRel ρ β x (re o)) {l : List Operand} {r : List V} (h : mapR ev l = .ok r) : VRels ρ β r (l.map re) := by
  obtain ⟨h1, h2⟩ := mapR_ok h
  refine VRels.mk (by simpa using h1) fun i x v hx hv => ?_
  rw [List.getElem?_map] at hv
  cases hl : l[i]? with
  | none => rw [hl] at hv; cases hv
  | some o =>
    rw [hl] at hv
    cases hv
    exact hev _ _ (h2 i o x hl hx)
theorem optR_rel {ev : Operand → R V} {re : Operand → Value} (hev : ∀ o x, ev o = .ok x → VRel ρ β x (re o)) {o : Option Operand} {r : Option V} (h : optR ev o = .ok r) : ORel ρ β r (o.map re) := by
  cases o with
  | none => cases h; rfl
  | some o =>
    simp only [optR] at h
    obtain ⟨b, hb, h⟩ := R.bind_ok h
    cases h
    exact ⟨_, rfl, hev _ _ hb⟩
theorem nilCheck_sound {x r : V} (h : nilCheckV x = .ok r) {v : Value} (hx : VRel ρ β x v) : r = x ∧ ((∃ a, v = .pointer (some a)) ∨ ∃ f a c, v = .func (.func f) a c) := by
  unfold nilCheckV at h
  split at h
  · cases h
    obtain ⟨m, o, z, _, rfl⟩ := vrel_p hx
    exact ⟨rfl, .inl ⟨_, rfl⟩⟩
  · cases h
    simp only [VRel] at hx
    obtain ⟨a, c, rfl, _⟩ := hx
    exact ⟨rfl, .inr ⟨_, _, _, rfl⟩⟩
  · cases h
theorem conv_sound {s d : Nat} {x r : V} {n : Option Nat} (hs : tLoad P s = .ok n) (h : convP (tKd P d) x = .ok r) {v : Value} (hx : VRel ρ β x v) (w : World) : ∃ q, (convert s d v).run P w = .ok q w ∧ VRel ρ β r q := by
  obtain ⟨_, ds, hu⟩ := tLoad_ok hs
  unfold convP at h
  split at h
  · rename_i k hk
    have hd := tKd_int hk
    split at h
    · cases h
      rw [vrel_i hx]
      refine ⟨_, ?_, vrel_mk_i⟩
      simp only [convert, Sem.run_bind, run_underlying hu, run_underlying hd, Result.andThen_ok, Conv.intToInt, Sem.run_pure, wrap_eq]
    · cases h
  · rename_i hk
    have hd := tKd_str hk
    split at h
    · cases h
      obtain ⟨b, rfl, hb⟩ := vrel_s hx
      refine ⟨_, ?_, vrel_mk_s hb⟩
      simp only [convert, Sem.run_bind, run_underlying hu, run_underlying hd, Result.andThen_ok, Sem.run_pure]
    · cases h
  · cases h
theorem toArr_sound {t : Nat} {x r : V} (h : toArr P t x = .ok r) {v : Value} (hx : VRel ρ β x v) (w : World) : ∃ q, (Instr.arrayAt t v).run P w = .ok q w ∧ VRel ρ β r q := by
  unfold toArr at h
  split at h
  · obtain ⟨y, hy, h⟩ := R.bind_ok h
    obtain ⟨h1, h⟩ := cond_ok h
    cases h
    have hu := tArray_ok hy
    simp only [ble_eq, blt_eq, Bool.and_eq_true, decide_eq_true_eq] at h1
    simp only [VRel] at hx
    obtain ⟨m, o, z, o', c, hb, rfl, ho, hlen, _⟩ := hx
    have ho' := ho.resolve_right (by omega)
    refine ⟨.pointer (some ⟨m, o', none⟩), ?_, ?_⟩
    · have hn : ¬ (_ < y.1) := Nat.not_lt.2 h1.1
      simp only [Instr.arrayAt, Sem.run_bind, run_underlying hu, Result.andThen_ok, hn, if_false, Sem.run_pure]
    · simp only [VRel]
      exact ⟨m, o, z, hb, by rw [ho']⟩
  · cases h
theorem extract_sound {i : Nat} {x r : V} (h : extractV i x = .ok r) {v : Value} (hx : VRel ρ β x v) (w : World) : ∃ q, (Instr.extract v i).run P w = .ok q w ∧ VRel ρ β r q := by
  unfold extractV at h
  split at h
  · have h' := ofOpt_ok h
    rw [nth_eq] at h'
    simp only [VRel] at hx
    obtain ⟨vs, rfl, hx⟩ := hx
    obtain ⟨q, hq, hr⟩ := hx.get h'
    refine ⟨q, ?_, hr⟩
    rw [Array.getElem?_toList] at hq
    simp only [Instr.extract, hq, Sem.run_pure]
  · cases h
theorem ty0_ok {c : Call} {t : Nat} (h : ty0 c = .ok t) : c.argTypes[0]? = some t := by
  have := ofOpt_ok h
  rw [nth_eq] at this
  simpa using this
theorem len_sound {c : Call} {t ty : Nat} {x r : V} (ht : ty0 c = .ok t) (h : lenP (tKd P t) x = .ok r) {v : Value} (hx : VRel ρ β x v) (w : World) : ∃ q, (Builtin.len_ c.argTypes ty #[v]).run P w = .ok q w ∧ VRel ρ β r q := by
  have h0 := ty0_ok ht
  unfold lenP at h
  split at h
  · rename_i hk
    have hu := tKd_str hk
    split at h
    · cases h
      obtain ⟨s, rfl, hs⟩ := vrel_s hx
      refine ⟨_, ?_, vrel_mk_i⟩
      simp only [Builtin.len_, h0, List.getElem?_toArray, List.getElem?_cons_zero, Sem.run_bind, run_underlying hu, Result.andThen_ok, goInt, Sem.run_pure, size_of hs, lenN_eq]
      rfl
    · cases h
  · rename_i e hk
    have hu := tKd_sl hk
    split at h
    · cases h
      have : v = .slice none 0 0 := by simpa [VRel] using hx
      subst this
      refine ⟨_, ?_, vrel_mk_i⟩
      simp only [Builtin.len_, h0, List.getElem?_toArray, List.getElem?_cons_zero, Sem.run_bind, run_underlying hu, Result.andThen_ok, goInt, Sem.run_pure]
      rfl
    · cases h
      simp only [VRel] at hx
      obtain ⟨m, o, z, o', c, hb, rfl, _⟩ := hx
      refine ⟨_, ?_, vrel_mk_i⟩
      simp only [Builtin.len_, h0, List.getElem?_toArray, List.getElem?_cons_zero, Sem.run_bind, run_underlying hu, Result.andThen_ok, goInt, Sem.run_pure]
      rfl
    · cases h
  · cases h
theorem cap_sound {c : Call} {t e ty n : Nat} {x : V} (ht : ty0 c = .ok t) (he : tSlice P t = .ok e) (h : capV x = .ok n) {v : Value} (hx : VRel ρ β x v) (w : World) : (Builtin.cap_ c.argTypes ty #[v]).run P w = .ok (.int .i64 (Int.ofNat n)) w := by
  have h0 := ty0_ok ht
  have hu := tSlice_ok he
  unfold capV at h
  split at h
  · cases h
    have : v = .slice none 0 0 := by simpa [VRel] using hx
    subst this
    simp only [Builtin.cap_, h0, List.getElem?_toArray, List.getElem?_cons_zero, Sem.run_bind, run_underlying hu, Result.andThen_ok, goInt, Sem.run_pure]
    rfl
  · split at h
    · cases h
      simp only [VRel, capRel] at hx
      obtain ⟨m, o, z, o', c, hb, rfl, _, _, rfl⟩ := hx
      simp only [Builtin.cap_, h0, List.getElem?_toArray, List.getElem?_cons_zero, Sem.run_bind, run_underlying hu, Result.andThen_ok, goInt, Sem.run_pure]
      rfl
    · cases h
  · cases h
theorem fold_max {k : IntKind} : ∀ {l : List V} {a : Int} {r : V}, foldI maxI k a l = .ok r → ∀ {vs : List Value}, VRels ρ β l vs → ∀ w : World, ∃ q, (vs.foldlM Builtin.max2 (.int k a)).run P w = .ok q w ∧ VRel ρ β r q
  | [], a, r, h, vs, hv, w => by
    simp only [VRels] at hv
    subst hv
    simp only [foldI] at h
    cases h
    exact ⟨_, rfl, vrel_mk_i⟩
  | v :: l, a, r, h, vs, hv, w => by
    simp only [VRels] at hv
    obtain ⟨u, us, rfl, h1, h2⟩ := hv
    simp only [foldI] at h
    split at h
    · obtain ⟨hk, g⟩ := cond_ok h
      have := kindBeq_eq hk
      subst this
      clear h
      rename_i b
      have h := g
      rw [vrel_i h1]
      obtain ⟨q, hq, hr⟩ := fold_max h h2 w
      refine ⟨q, ?_, hr⟩
      simp only [List.foldlM_cons, Builtin.max2, Sem.run_bind, Sem.run_pure, Result.andThen_ok]
      have e : maxI a b = (if b > a then b else a) := by
        simp only [maxI, intLt_eq]
        by_cases hab : a < b <;> simp [hab]
      rw [← e]
      exact hq
    · cases h
theorem fold_min {k : IntKind} : ∀ {l : List V} {a : Int} {r : V}, foldI minI k a l = .ok r → ∀ {vs : List Value}, VRels ρ β l vs → ∀ w : World, ∃ q, (vs.foldlM Builtin.min2 (.int k a)).run P w = .ok q w ∧ VRel ρ β r q
  | [], a, r, h, vs, hv, w => by
    simp only [VRels] at hv
    subst hv
    simp only [foldI] at h
    cases h
    exact ⟨_, rfl, vrel_mk_i⟩
  | v :: l, a, r, h, vs, hv, w => by
    simp only [VRels] at hv
    obtain ⟨u, us, rfl, h1, h2⟩ := hv
    simp only [foldI] at h
    split at h
    · obtain ⟨hk, g⟩ := cond_ok h
      have := kindBeq_eq hk
      subst this
      clear h
      rename_i b
      have h := g
      rw [vrel_i h1]
      obtain ⟨q, hq, hr⟩ := fold_min h h2 w
      refine ⟨q, ?_, hr⟩
      simp only [List.foldlM_cons, Builtin.min2, Sem.run_bind, Sem.run_pure, Result.andThen_ok]
      have e : minI a b = (if b < a then b else a) := by
        simp only [minI, intLt_eq]
        by_cases hab : b < a <;> simp [hab]
      rw [← e]
      exact hq
    · cases h

theorem pure_sound {ev : Operand → R V} {re : Operand → Value} (hev : ∀ o x, ev o = .ok x → VRel ρ β x (re o)) {o : Oper} {r : V} (h : pureOp o.op P ev = .ok r) (w : World) :
    ∃ q, (execOp re o).run P w = .ok (.value q) w ∧ VRel ρ β r q := by
  obtain ⟨dst, op, ty, pos, after, guard⟩ := o
  simp only at h
  cases op <;> simp only [pureOp] at h <;> try cases h
  case move x => exact ⟨_, rfl, hev _ _ h⟩
  case assign x => exact ⟨_, rfl, hev _ _ h⟩
  case pick c x y =>
    obtain ⟨b, hb, h⟩ := R.bind_ok h
    split at h
    · rename_i b
      have hc := vrel_b (hev _ _ hb)
      cases b with
      | true =>
        refine ⟨re x, ?_, hev _ _ h⟩
        simp [execOp, hc, asBool]
      | false =>
        refine ⟨re y, ?_, hev _ _ h⟩
        simp [execOp, hc, asBool]
    · cases h
  case build t ps =>
    obtain ⟨l, hl, h⟩ := R.bind_ok h
    obtain ⟨q, hq, hr⟩ := build_sound h (parts_sound hev hl) w
    refine ⟨q, ?_, hr⟩
    have e : (ps.map fun x => (x.1, re x.2)) = (ps.toList.map fun p => (p.1, re p.2)).toArray := by
      apply Array.ext'
      simp
    simp only [execOp, Sem.run_bind]
    have e2 : (ps.map fun (i, x) => (i, re x)) = (ps.toList.map fun p => (p.1, re p.2)).toArray := e
    rw [e2, hq]
    rfl
  case nilCheck x =>
    obtain ⟨y, hy, h⟩ := R.bind_ok h
    obtain ⟨rfl, hv⟩ := nilCheck_sound h (hev _ _ hy)
    refine ⟨re x, ?_, hev _ _ hy⟩
    rcases hv with ⟨a, ha⟩ | ⟨f, a, c, ha⟩
    · simp only [execOp, ha, Sem.run_pure]
    · simp only [execOp, ha, Sem.run_pure]
  case binOp op t x y yt =>
    obtain ⟨u, hu, h⟩ := R.bind_ok h
    obtain ⟨v, hv, h⟩ := R.bind_ok h
    obtain ⟨q, hq, hr⟩ := binop_sound h (hev _ _ hu) (hev _ _ hv) x y w
    refine ⟨q, ?_, hr⟩
    simp only [execOp]
    rw [Sem.run_bind, hq]
    rfl
  case unOp op t x =>
    obtain ⟨u, hu, h⟩ := R.bind_ok h
    obtain ⟨q, hq, hr⟩ := unop_sound (P := P) h (hev _ _ hu) w
    refine ⟨q, ?_, hr⟩
    simp only [execOp, Sem.run_bind, hq, Result.andThen_ok, Sem.run_pure]
  case convert s d x =>
    obtain ⟨n, hn, h⟩ := R.bind_ok h
    obtain ⟨u, hu, h⟩ := R.bind_ok h
    obtain ⟨q, hq, hr⟩ := conv_sound hn h (hev _ _ hu) w
    refine ⟨q, ?_, hr⟩
    simp only [execOp, Sem.run_bind, hq, Result.andThen_ok, Sem.run_pure]
  case sliceToArrayPointer t x =>
    obtain ⟨u, hu, h⟩ := R.bind_ok h
    obtain ⟨q, hq, hr⟩ := toArr_sound h (hev _ _ hu) w
    refine ⟨q, ?_, hr⟩
    simp only [execOp, Sem.run_bind, hq, Result.andThen_ok, Sem.run_pure]
  case makeFunc fn fs cs =>
    split at h
    · rename_i f
      obtain ⟨fs', h1, h⟩ := R.bind_ok h
      obtain ⟨cs', h2, h⟩ := R.bind_ok h
      cases h
      refine ⟨.func (.func f) (fs.map re) (cs.map re), by simp only [execOp, Instr.makeFunc, Sem.run_bind, Sem.run_pure, Result.andThen_ok], ?_⟩
      simp only [VRel]
      refine ⟨_, _, rfl, ?_, ?_⟩
      · simpa using mapR_rel hev h1
      · simpa using mapR_rel hev h2
    · cases h
  case slice t x lo hi mx =>
    obtain ⟨u, hu, h⟩ := R.bind_ok h
    obtain ⟨l', hl, h⟩ := R.bind_ok h
    obtain ⟨h', hh, h⟩ := R.bind_ok h
    obtain ⟨m', hm, h⟩ := R.bind_ok h
    obtain ⟨q, hq, hr⟩ := slice_sound h (hev _ _ hu) (optR_rel hev hl) (optR_rel hev hh) (optR_rel hev hm) w
    refine ⟨q, ?_, hr⟩
    simp only [execOp, Sem.run_bind, hq, Result.andThen_ok, Sem.run_pure]
  case fieldAddr t x f =>
    obtain ⟨u, hu, h⟩ := R.bind_ok h
    obtain ⟨q, hq, hr⟩ := fieldAddr_sound h (hev _ _ hu) w
    refine ⟨q, ?_, hr⟩
    simp only [execOp, Sem.run_bind, hq, Result.andThen_ok, Sem.run_pure]
  case field t x f =>
    obtain ⟨u, hu, h⟩ := R.bind_ok h
    obtain ⟨q, hq, hr⟩ := field_sound h (hev _ _ hu) w
    refine ⟨q, ?_, hr⟩
    simp only [execOp, Sem.run_bind, hq, Result.andThen_ok, Sem.run_pure]
  case indexAddr t x i =>
    obtain ⟨u, hu, h⟩ := R.bind_ok h
    obtain ⟨v, hv, h⟩ := R.bind_ok h
    obtain ⟨q, hq, hr⟩ := indexAddr_sound h (hev _ _ hu) (hev _ _ hv) w
    refine ⟨q, ?_, hr⟩
    simp only [execOp, Sem.run_bind, hq, Result.andThen_ok, Sem.run_pure]
  case index t x i =>
    obtain ⟨u, hu, h⟩ := R.bind_ok h
    obtain ⟨v, hv, h⟩ := R.bind_ok h
    obtain ⟨q, hq, hr⟩ := index_sound h (hev _ _ hu) (hev _ _ hv) w
    refine ⟨q, ?_, hr⟩
    simp only [execOp, Sem.run_bind, hq, Result.andThen_ok, Sem.run_pure]
  case extract t i =>
    obtain ⟨u, hu, h⟩ := R.bind_ok h
    obtain ⟨q, hq, hr⟩ := extract_sound (P := P) h (hev _ _ hu) w
    refine ⟨q, ?_, hr⟩
    simp only [execOp, Sem.run_bind, hq, Result.andThen_ok, Sem.run_pure]
  case call c =>
    obtain ⟨callee, args, argTypes⟩ := c
    simp only at h
    split at h
    · rename_i b
      obtain ⟨vs, hvs, h⟩ := R.bind_ok h
      have hrel := mapR_rel hev hvs
      have hargs : (args.map re).toList = args.toList.map re := by simp
      split at h
      · split at h
        · rename_i x
          obtain ⟨t, ht, h⟩ := R.bind_ok h
          simp only [VRels] at hrel
          obtain ⟨v, r', e, hx, rfl⟩ := hrel
          obtain ⟨q, hq, hr⟩ := len_sound (ty := ty) ht h hx w
          refine ⟨q, ?_, hr⟩
          have ea : args.map re = #[v] := by apply Array.ext'; rw [hargs, e]
          simp only [execOp, resolve, ea, Sem.run_bind, Sem.run_pure, Result.andThen_ok, invoke, builtin, hq]
        · cases h
      · split at h
        · rename_i x
          obtain ⟨t, ht, h⟩ := R.bind_ok h
          obtain ⟨e', he', h⟩ := R.bind_ok h
          obtain ⟨n, hn, h⟩ := R.bind_ok h
          cases h
          simp only [VRels] at hrel
          obtain ⟨v, r', e, hx, rfl⟩ := hrel
          have hq := cap_sound (ty := ty) ht he' hn hx w
          refine ⟨_, ?_, vrel_mk_i⟩
          have ea : args.map re = #[v] := by apply Array.ext'; rw [hargs, e]
          simp only [execOp, resolve, ea, Sem.run_bind, Sem.run_pure, Result.andThen_ok, invoke, builtin]
          simp only at hq
          rw [hq]
          rfl
        · cases h
      · unfold foldV at h
        split at h
        · cases h
        · split at h
          · simp only [VRels] at hrel
            obtain ⟨v, r', e, hx, hr'⟩ := hrel
            rw [vrel_i hx] at e
            obtain ⟨q, hq, hr⟩ := fold_max (P := P) h hr' w
            refine ⟨q, ?_, hr⟩
            simp only [execOp, resolve, Sem.run_bind, Sem.run_pure, Result.andThen_ok, invoke, builtin, Builtin.max_, hargs, e, hq]
          · cases h
      · unfold foldV at h
        split at h
        · cases h
        · split at h
          · simp only [VRels] at hrel
            obtain ⟨v, r', e, hx, hr'⟩ := hrel
            rw [vrel_i hx] at e
            obtain ⟨q, hq, hr⟩ := fold_min (P := P) h hr' w
            refine ⟨q, ?_, hr⟩
            simp only [execOp, resolve, Sem.run_bind, Sem.run_pure, Result.andThen_ok, invoke, builtin, Builtin.min_, hargs, e, hq]
          · cases h
      · cases h
    · cases h
end Go.Dm
namespace Go.Dm
variable {ρ : Env} {β : B} {P : Program} {h : H} {w : World}

theorem loadV_sound {t : Nat} {x r : V} (hr : HRel ρ β h w) (e : loadV P t h x = .ok r) {v : Value} (hx : VRel ρ β x v) : (∃ b off, x = .p b off) ∧ ∃ q, (Instr.loadAt t v).run P w = .ok q w ∧ VRel ρ β r q := by
  unfold loadV at e
  split at e
  · rename_i b off
    refine ⟨⟨b, off, rfl⟩, ?_⟩
    obtain ⟨c, hc, e⟩ := R.bind_ok e
    obtain ⟨n, hn, e⟩ := R.bind_ok e
    obtain ⟨rfl, d, hd⟩ := tLoad_ok hn
    have hc' := cells_ok hc
    obtain ⟨m, o, z, hb, rfl⟩ := vrel_p hx
    cases ha : tAgg P t with
    | some n =>
      rw [ha] at e
      simp only [loadC] at e
      obtain ⟨l, hl, e⟩ := R.bind_ok e
      cases e
      rw [dropN_eq] at hl
      obtain ⟨rfl, hlen⟩ := takeR_ok hl
      simp only [List.length_drop] at hlen
      obtain ⟨⟨ds, hu, hrow⟩, hi⟩ := tAgg_some ha
      by_cases hoff : off + n ≤ c.length
      · obtain ⟨vs, h1, h2, h3⟩ := range_of hr hb hc' off n hoff
        refine ⟨.agg vs.toArray, run_loadAt_mid w m (o + off) t vs ds h2 hu hrow (by rw [hi, h1]), ?_⟩
        simp only [VRel]
        refine ⟨_, rfl, ?_, by simpa using h3⟩
        obtain ⟨_, _, _, _, _, _, _, hat, _⟩ := hr.cells b m o z c hb hc'
        exact List.all_eq_true.2 fun y hy => List.all_eq_true.1 hat y (List.mem_of_mem_drop (List.mem_of_mem_take hy))
      · have hn0 : n = 0 := by omega
        subst hn0
        refine ⟨.agg #[], run_loadAt_mid w m (o + off) t [] ds (fun j v hv => by simp at hv) hu hrow (by rw [hi]; rfl), ?_⟩
        simp only [VRel, List.take_zero]
        exact ⟨#[], rfl, rfl, by simp [VRels]⟩
    | none =>
      rw [ha] at e
      simp only [loadC] at e
      have e' := ofOpt_ok e
      rw [nth_eq] at e'
      have hoff : off < c.length := (List.getElem?_eq_some_iff.1 e').1
      obtain ⟨vs, h1, h2, h3⟩ := range_of hr hb hc' off 1 (by omega)
      have e2 : ((c.drop off).take 1)[0]? = some r := by
        rw [List.getElem?_take, if_pos (by omega), List.getElem?_drop]
        simpa using e'
      obtain ⟨q, hq, hrel⟩ := h3.get e2
      refine ⟨q, ?_, hrel⟩
      have hcell := h2 0 q hq
      simp only [Nat.add_zero] at hcell
      simp only [Instr.loadAt, Instr.sureAddr, loadVar, Sem.run_bind, Sem.run_pure, Result.andThen_ok, run_isAgg_none ha hd, Bool.false_eq_true, if_false, run_load, hcell]
  · cases e
theorem byteR_list {l : List V} {ns : List Nat} (e : bytesR l = .ok ns) {vs : List Value} (hv : VRels ρ β l vs) : vs = (ns.map Int.ofNat).map (Value.int .u8) ∧ ∀ n ∈ ns, n < 256 := by
  induction l generalizing ns vs with
  | nil => simp only [bytesR] at e; cases e; simp only [VRels] at hv; exact ⟨hv, by simp⟩
  | cons x l ih =>
    simp only [bytesR] at e
    split at e
    · obtain ⟨hk, e⟩ := cond_ok e
      have := kindBeq_eq hk
      subst this
      obtain ⟨n, hn, g⟩ := R.bind_ok e
      have := natOf_ok hn
      subst this
      obtain ⟨hlt, g⟩ := cond_ok g
      obtain ⟨r, hr, g⟩ := R.bind_ok g
      cases g
      simp only [VRels] at hv
      obtain ⟨v, us, rfl, h1, h2⟩ := hv
      obtain ⟨rfl, h4⟩ := ih hr h2
      rw [vrel_i h1]
      simp only [blt_eq, decide_eq_true_eq] at hlt
      refine ⟨by simp, fun n hn => ?_⟩
      rcases List.mem_cons.1 hn with rfl | hn
      · exact hlt
      · exact h4 n hn
    · cases e
theorem push_list (ns : List Nat) : ∀ (s : ByteArray), ((ns.map Int.ofNat).foldl (fun r n => r.push (UInt8.ofNat n.toNat)) s).data.toList = s.data.toList ++ ns.map UInt8.ofNat := by
  induction ns with
  | nil => intro s; simp
  | cons n ns ih =>
    intro s
    simp only [List.map_cons, List.foldl_cons]
    rw [ih]
    have : (s.push (UInt8.ofNat (Int.ofNat n).toNat)).data.toList = s.data.toList ++ [UInt8.ofNat n] := by simp [ByteArray.push]
    rw [this]
    simp
theorem bytes_back {ns : List Nat} (h : ∀ n ∈ ns, n < 256) : (ns.map UInt8.ofNat).map (·.toNat) = ns := by
  rw [List.map_map]
  conv => rhs; rw [← List.map_id ns]
  apply List.map_congr_left
  intro n hn
  have := h n hn
  simp
  omega
theorem isU8_ok {t : Nat} (e : isU8 (tKd P t) = true) : P.underlying t = some (.int .u8) := by
  unfold isU8 at e
  split at e
  · rename_i k hk
    have := kindBeq_eq e
    subst this
    exact tKd_int hk
  · cases e
theorem toStr_sound {s d el : Nat} {x r : V} (hr : HRel ρ β h w) (hs : tSlice P s = .ok el) (hel : isU8 (tKd P el) = true) (hd : isStr (tKd P d) = true) (e : toStr h x = .ok r) {v : Value} (hx : VRel ρ β x v) :
    ∃ q, (convert s d v).run P w = .ok q w ∧ VRel ρ β r q := by
  have hus := tSlice_ok hs
  have hud := isStr_ok hd
  have hue := isU8_ok hel
  unfold toStr at e
  split at e
  · cases e
    have : v = .slice none 0 0 := by simpa [VRel] using hx
    subst this
    refine ⟨.string .empty, ?_, vrel_mk_s rfl⟩
    rw [run_convert_bytes_string w s d el _ _ _ hus hue hud]
    rfl
  · rename_i b off n cap
    simp only [VRel] at hx
    obtain ⟨m, o, z, o', c, hb, rfl, ho, hlen, _⟩ := hx
    cases hz : Nat.beq n 0 with
    | true =>
      have := Nat.eq_of_beq_eq_true hz
      subst this
      rw [hz] at e
      cases e
      refine ⟨.string .empty, ?_, vrel_mk_s rfl⟩
      rw [run_convert_bytes_string w s d el _ _ _ hus hue hud]
      have := run_bytesToString (P := P) w ⟨m, o', none⟩ 0 c [] rfl
      simpa using this
    | false =>
      rw [hz] at e
      have hn0 := Nat.ne_of_beq_eq_false hz
      have ho' := ho.resolve_right (by omega)
      subst ho'
      simp only [cond_false] at e
      obtain ⟨cs, hcs, e⟩ := R.bind_ok e
      obtain ⟨l, hl, e⟩ := R.bind_ok e
      obtain ⟨ns, hns, e⟩ := R.bind_ok e
      cases e
      rw [dropN_eq] at hl
      obtain ⟨rfl, hle⟩ := takeR_ok hl
      simp only [List.length_drop] at hle
      have hc' := cells_ok hcs
      obtain ⟨vs, h1, h2, h3⟩ := range_of hr hb hc' off n (by omega)
      obtain ⟨rfl, hlt⟩ := byteR_list hns h3
      simp only [List.length_map] at h1
      rw [run_convert_bytes_string w s d el _ _ _ hus hue hud]
      have hl : (loadCells ⟨m, o + off, none⟩ n).run P w = .ok ((ns.map Int.ofNat).map (Value.int .u8)).toArray w := by
        have := run_loadCells_list (P := P) w ⟨m, o + off, none⟩ ((ns.map Int.ofNat).map (Value.int .u8)) (fun j v hv => by rw [add_none]; exact h2 j v hv)
        rw [show ((ns.map Int.ofNat).map (Value.int .u8)).length = n by simpa using h1] at this
        exact this
      refine ⟨_, run_bytesToString (P := P) w _ n c _ hl, vrel_mk_s ?_⟩
      rw [push_list]
      simpa using bytes_back hlt
  · cases e
end Go.Dm
namespace Go.Dm
variable {ρ : Env} {β : B} {P : Program} {h : H} {w : World}

/-- what an operation that makes one block comes to -/
def Makes (ρ : Env) (β : B) (P : Program) (nx : Nat) (w : World) (s : Sem Value) (x : V) (b : Blk) : Prop :=
  ∃ q w' ob z, s.run P w = .ok q w' ∧ w'.heap = w.heap.push ob ∧ w'.os = w.os ∧ w'.output = w.output ∧ NewOk ρ β b ob z ∧ VRel ρ (β.add nx (w.heap.size, 0, z)) x q
theorem newOk_cells {c : List V} {mc : Array Value} {el : TypeId} (ha : atoms c = true) (hc : VRels ρ β c mc.toList) : NewOk ρ β (.cells c) (.cells mc el) mc.size := by
  refine ⟨mc, el, (0, 0), rfl, rfl, fun i _ => by simp, ?_, ha, ?_⟩
  · have := hc.length; simp at this; omega
  · have := hc.length
    rw [this, List.take_length]
    exact hc
theorem vrel_new_p {β : B} {nx m z : Nat} : VRel ρ (β.add nx (m, 0, z)) (.p nx 0) (.pointer (some ⟨m, 0, none⟩)) := by
  simp only [VRel]
  exact ⟨m, 0, z, B.add_self _ _ _, rfl⟩
theorem vrel_new_sl {β : B} {nx m z n c : Nat} {cap : Cap} (hn : n ≤ c) (hc : capRel z 0 c cap) : VRel ρ (β.add nx (m, 0, z)) (.sl nx 0 n cap) (.slice (some ⟨m, 0, none⟩) n c) := by
  simp only [VRel]
  exact ⟨m, 0, z, 0, c, B.add_self _ _ _, rfl, .inl rfl, hn, hc⟩
theorem makes_alloc {t : Nat} {z : V} (hz : tZero P t = .ok z) (hk : okCells z = true) (nx : Nat) : Makes ρ β P nx w (Instr.alloc t true (.tuple #[])) (.p nx 0) (.cells (cellsOfV z)) := by
  obtain ⟨i, v, hi, hv, hr⟩ := tZero_ok (ρ := ρ) (β := β) hz
  obtain ⟨ha, hr⟩ := cells_of hk hr
  refine ⟨.pointer (some ⟨w.heap.size, 0, none⟩), { w with heap := w.heap.push (.cells v.cells t) }, .cells v.cells t, v.cells.size, ?_, rfl, rfl, rfl, newOk_cells ha hr, vrel_new_p⟩
  simp [Instr.alloc, zeroValue, typeInfo, hi, hv, newVar, newRow]
theorem makes_box {t : Nat} {x : V} (hk : okCells x = true) {v : Value} (hx : VRel ρ β x v) (nx : Nat) : Makes ρ β P nx w (Instr.box t v) (.p nx 0) (.cells (cellsOfV x)) := by
  obtain ⟨ha, hr⟩ := cells_of hk hx
  refine ⟨.pointer (some ⟨w.heap.size, 0, none⟩), { w with heap := w.heap.push (.cells v.cells t) }, .cells v.cells t, v.cells.size, ?_, rfl, rfl, rfl, newOk_cells ha hr, vrel_new_p⟩
  simp [Instr.box, newVar, newRow]
/-- so many zero values in a row -/
theorem zeros_toList (z : Array Value) (hz : 0 < z.size) : ∀ n, ((Array.range (n * z.size)).map (fun i => z[i % z.size]!)).toList = (List.replicate n z.toList).flatten
  | 0 => by simp
  | n + 1 => by
    have ih := zeros_toList z hz n
    simp only [Array.toList_map, Array.toList_range] at ih ⊢
    rw [Nat.add_mul, Nat.one_mul, Nat.add_comm, List.range_add, List.map_append, List.map_map]
    rw [List.replicate_succ, List.flatten_cons]
    congr 1
    · apply List.ext_getElem?
      intro i
      simp only [List.getElem?_map]
      by_cases hi : i < z.size
      · rw [List.getElem?_eq_getElem (by simpa using hi), List.getElem_range]
        simp only [Option.map_some, Nat.mod_eq_of_lt hi]
        rw [Array.getElem?_toList, Array.getElem?_eq_getElem hi, getElem!_pos z i hi]
      · rw [List.getElem?_eq_none (by simpa using hi), List.getElem?_eq_none (by simpa using hi)]
        rfl
    · rw [← ih]
      apply List.map_congr_left
      intro i _
      simp
theorem rep_rel {z : List V} {v : List Value} (hz : VRels ρ β z v) : ∀ n, VRels ρ β (repN z n) (List.replicate n v).flatten
  | 0 => by simp [repN, VRels]
  | n + 1 => by
    rw [repN, app_eq, List.replicate_succ, List.flatten_cons]
    exact hz.append (rep_rel hz n)
theorem rep_atoms {z : List V} (hz : atoms z = true) : ∀ n, atoms (repN z n) = true
  | 0 => rfl
  | n + 1 => by
    rw [repN, app_eq]
    simp only [atoms, List.all_append, Bool.and_eq_true]
    exact ⟨hz, rep_atoms hz n⟩
theorem makes_slice {t n e s : Nat} {z : V} {ps : List (Nat × V)} {qs : List (Nat × Value)} {c : List V} (he : tSlice P t = .ok e) (hz : tZero P e = .ok z) (hs : tSize P e = .ok s) (hk : okCells z = true)
    (hl : (cellsOfV z).length = s) (hpos : 0 < s) (hsmall : n * s ≤ 16777216) (hq : PRel ρ β ps qs) (hc : fillR (fun i => .ok (i * s, s)) (repN (cellsOfV z) n) ps = .ok c) (nx : Nat) :
    Makes ρ β P nx w (Instr.buildSlice t n qs.toArray) (.sl nx 0 n (.ex n)) (.cells c) := by
  have hu := tSlice_ok he
  obtain ⟨i, v, hi, hv, hr⟩ := tZero_ok (ρ := ρ) (β := β) hz
  obtain ⟨ha, hr⟩ := cells_of hk hr
  obtain ⟨i', hi', hs'⟩ := tSize_ok hs
  rw [hi] at hi'
  cases hi'
  have hvl := hr.length
  simp only [Array.length_toList] at hvl
  have hvs : v.cells.size = s := by omega
  obtain ⟨mc', h1, h2, h3⟩ := fill_sound (place' := fun i => some (i * s, s)) (mc := (Array.range (n * s)).map (fun i => v.cells[i % v.cells.size]!)) (fun i y hy => by cases hy; rfl) hc hq (rep_atoms ha n) (by
    rw [← hvs, zeros_toList _ (by omega)]
    exact rep_rel hr n)
  refine ⟨.slice (some ⟨w.heap.size, 0, none⟩) n n, { w with heap := w.heap.push (.cells mc' e) }, .cells mc' e, mc'.size, ?_, rfl, rfl, rfl, newOk_cells h2 h3, vrel_new_sl (Nat.le_refl _) rfl⟩
  by_cases hn : n * s = 0
  · have hn0 : n = 0 := by
      rcases Nat.mul_eq_zero.1 hn with h | h
      · exact h
      · omega
    subst hn0
    simp only [Nat.zero_mul] at h1
    have e0 : ∀ f : Nat → Value, (Array.range 0).map f = #[] := fun f => by simp
    rw [e0] at h1
    simp only [Instr.buildSlice, Sem.run_bind, run_underlying hu, Result.andThen_ok, run_size hs, Nat.zero_mul, if_true, e0, h1, newRow]
    simp
  · have hbig : ¬ (n * s > 2 ^ 24) := by omega
    simp only [Instr.buildSlice, Sem.run_bind, run_underlying hu, Result.andThen_ok, run_size hs, hbig, if_false, hn, zeroValue, typeInfo, run_program, hi, hv, Sem.run_pure, h1, newRow, run_newObj]
theorem makes_make {t l c e s by_ : Nat} {k k' : IntKind} {z : V} (he : tSlice P t = .ok e) (hz : tZero P e = .ok z) (hs : tSize P e = .ok s) (hb : tBytes P e = .ok by_) (hk : okCells z = true)
    (hl : (cellsOfV z).length = s) (hpos : 0 < s) (hlc : l ≤ c) (hroom : (2 * c + 2048) * by_ ≤ 281474976710656) (hc : c < 1073741824) (nx : Nat) :
    Makes ρ β P nx w (Instr.makeSlice t (.int k l) (.int k' c)) (.sl nx 0 l (.ex c)) (.cells (repN (cellsOfV z) c)) := by
  have hu := tSlice_ok he
  obtain ⟨i, v, hi, hv, hr⟩ := tZero_ok (ρ := ρ) (β := β) hz
  obtain ⟨ha, hr⟩ := cells_of hk hr
  obtain ⟨i', hi', hs'⟩ := tSize_ok hs
  rw [hi] at hi'
  cases hi'
  have hby : i.bytes = by_ := by
    unfold tBytes at hb
    rw [hi] at hb
    cases hb
    rfl
  have hvl := hr.length
  simp only [Array.length_toList] at hvl
  have hvs : v.cells.size = s := by omega
  have hmul : by_ * c ≤ 281474976710656 := by
    have : c * by_ ≤ (2 * c + 2048) * by_ := Nat.mul_le_mul_right _ (by omega)
    rw [Nat.mul_comm]; omega
  have hrun := run_make (P := P) w t e i v hu hi hv k k' (l : Int) (c : Int) (by omega) (by omega) (by rw [hby, ← Int.natCast_mul]; exact Int.ofNat_le.2 hmul) (by omega)
  rw [hs', Int.toNat_natCast, Int.toNat_natCast] at hrun
  refine ⟨_, _, .cells (madeCells v.cells (c * s)) e, _, hrun, rfl, rfl, rfl, newOk_cells (rep_atoms ha c) ?_, vrel_new_sl hlc rfl⟩
  rw [madeCells, ← hvs, zeros_toList _ (by omega)]
  exact rep_rel hr c
theorem makes_map {t : Nat} (nx : Nat) : Makes ρ β P nx w (Instr.makeMap t none) (.m nx) (.mp []) := by
  refine ⟨.map (some w.heap.size), { w with heap := w.heap.push (.map #[] 0) }, .map #[] 0, 0, ?_, rfl, rfl, rfl, ⟨#[], 0, rfl, ⟨[], by simp, by simp [VRels], by simp [VRels]⟩, ⟨by simp, by simp⟩⟩, ?_⟩
  · simp [Instr.makeMap]
  · simp only [VRel]
    exact ⟨_, _, _, B.add_self _ _ _, rfl⟩
theorem makes_bytes {s d e : Nat} {x r : V} {b : Blk} (hs : isStr (tKd P s) = true) (hd : tSlice P d = .ok e) (he : isU8 (tKd P e) = true) {nx : Nat} (h : toBytes nx x = .ok (r, b)) {v : Value} (hx : VRel ρ β x v) :
    Makes ρ β P nx w (convert s d v) r b := by
  have hus := isStr_ok hs
  have hud := tSlice_ok hd
  have hue := isU8_ok he
  unfold toBytes at h
  split at h
  · obtain ⟨hlen, h⟩ := cond_ok h
    cases h
    obtain ⟨bs, rfl, rfl⟩ := vrel_s hx
    have hrun := run_bytes_of_string (P := P) w s d e bs hus hud hue
    have hsz : lenN (bs.data.toList.map (·.toNat)) 0 = bs.size := by rw [lenN_eq]; simp
    have hcap : bs.size ≤ grownCap w bs.size 0 e := by
      unfold grownCap
      simp only [Question.cut]
      omega
    have hrow : (bytesRow bs (grownCap w bs.size 0 e)).size = grownCap w bs.size 0 e := by
      simp [bytesRow]
      show bs.size + (grownCap w bs.size 0 e - bs.size) = _
      omega
    refine ⟨_, _, _, grownCap w bs.size 0 e, hrun, ?_, ?_, ?_, ⟨bytesRow bs (grownCap w bs.size 0 e), e, ((bytesRow bs (grownCap w bs.size 0 e)).size, (bytesRow bs (grownCap w bs.size 0 e)).size + 1), rfl, hrow, ?_, ?_, ?_, ?_⟩, ?_⟩
    · simp [World.alloc, World.drew, -World.alloc_eq, -World.drew_eq]
    · simp [World.alloc, World.drew, -World.alloc_eq, -World.drew_eq]
    · simp [World.alloc, World.drew, -World.alloc_eq, -World.drew_eq]
    · intro i hi
      rw [hrow]
      simp only
      omega
    · simp
      exact hcap
    · refine List.all_eq_true.2 fun x hx => ?_
      obtain ⟨n, _, rfl⟩ := List.mem_map.1 hx
      rfl
    · have e1 : ((bytesRow bs (grownCap w bs.size 0 e)).toList.take ((bs.data.toList.map (·.toNat)).map byteV).length) = bs.data.toList.map (fun b => Value.int .u8 b.toNat) := by
        simp [bytesRow]
      rw [e1, List.map_map]
      refine VRels.mk (by simp) fun i x v hx hv => ?_
      rw [List.getElem?_map] at hx hv
      cases hb : bs.data.toList[i]? with
      | none => rw [hb] at hx; cases hx
      | some b => rw [hb] at hx hv; cases hx; cases hv; exact vrel_mk_i
    · rw [hsz]
      exact vrel_new_sl hcap ⟨hcap, by omega⟩
  · cases h
end Go.Dm
namespace Go.Dm
variable {ρ : Env} {β : B} {P : Program} {h : H} {w : World}

theorem HRel.of_heap {w' : World} (hr : HRel ρ β h w) (e : w'.heap = w.heap) : HRel ρ β h w' := by
  obtain ⟨h1, h2, h3, h4⟩ := hr
  exact ⟨by rw [e]; exact h1, by rw [e]; exact h2, h3, by rw [e]; exact h4⟩
/-- an operation that acts: what it comes to -/
def Acts (ρ : Env) (β : B) (h : H) (w : World) (x : V) (h' : H) (q : Value) (w' : World) : Prop := ∃ β', Goes ρ β h w β' h' w' ∧ VRel ρ β' x q
theorem store_sound {t : Nat} {x y : V} {h' : H} (hr : HRel ρ β h w) (hd : Dom β h) (e : storeV P t h x y = .ok h') {v u : Value} (hx : VRel ρ β x v) (hy : VRel ρ β y u) :
    ∃ w', (Instr.storeAt t v u).run P w = .ok () w' ∧ Goes ρ β h w β h' w' := by
  unfold storeV at e
  split at e
  · rename_i b off
    obtain ⟨c, hc, e⟩ := R.bind_ok e
    obtain ⟨n, hn, e⟩ := R.bind_ok e
    obtain ⟨h1, e⟩ := cond_ok e
    obtain ⟨c', hc', e⟩ := R.bind_ok e
    cases e
    simp only [Bool.and_eq_true, lenN_eq] at h1
    have hsz := Nat.eq_of_beq_eq_true h1.2
    simp only [Nat.add_zero] at hsz
    obtain ⟨m, o, z, hb, rfl⟩ := vrel_p hx
    obtain ⟨ha, hu⟩ := cells_of h1.1 hy
    obtain ⟨g1, g2⟩ := goes_store hr hd hb (cells_ok hc) hc' ha hu
    refine ⟨_, ?_, g2⟩
    have hl := hu.length
    simp only [Array.length_toList] at hl
    have hrun := run_storeCells_cells (P := P) m (o + off) u.cells.toList 0 w (fun j hj => by simpa using (g1 j hj).1) (fun j hj => by simpa using (g1 j hj).2) (oneCell_mem ha hu)
    have hne : ¬ (u.cells.size ≠ n) := by omega
    simp only [Instr.storeAt, Instr.sureAddr, storeVar, Sem.run_bind, Sem.run_pure, Result.andThen_ok, run_size hn, hne, if_false]
    simpa using hrun
  · cases e

theorem growBy_le (n : Nat) : ∀ (r c : Nat), c ≤ 2 * n + 192 → Builtin.growBy n r c ≤ 2 * n + 192
  | 0, c, h => by simpa [Builtin.growBy] using h
  | r + 1, c, h => by
    simp only [Builtin.growBy]
    split
    · exact h
    · exact growBy_le n r _ (by omega)
theorem nextcap_le {n c : Nat} (h : c < n) : Builtin.nextslicecap n c ≤ 2 * n + 2048 := by
  unfold Builtin.nextslicecap
  split
  · omega
  · split
    · omega
    · have := growBy_le n 4 c (by omega)
      omega
theorem lenV_sound {x : V} {n : Nat} (e : lenV x = .ok n) {v : Value} (hx : VRel ρ β x v) (w : World) : (Builtin.lenOf v).run P w = .ok n w := by
  unfold lenV at e
  split at e
  · cases e
    have : v = .slice none 0 0 := by simpa [VRel] using hx
    subst this; rfl
  · cases e
    simp only [VRel] at hx
    obtain ⟨m, o, z, o', c, hb, rfl, _⟩ := hx
    rfl
  · cases e
    obtain ⟨s, rfl, hs⟩ := vrel_s hx
    simp only [Builtin.lenOf, Sem.run_pure, size_of hs, lenN_eq, Nat.add_zero]
  · cases e
theorem first_sound {es n n' : Nat} {x : V} {c : List V} (hr : HRel ρ β h w) (e : firstR h es n x = .ok c) (hlen : lenV x = .ok n') (hn : n ≤ n') {v : Value} (hx : VRel ρ β x v) :
    ∃ vs : List Value, (∀ w' : World, w'.heap = w.heap → (Builtin.firstCells es n v).run P w' = .ok vs.toArray w') ∧ VRels ρ β c vs ∧ atoms c = true := by
  unfold firstR at e
  cases hz : Nat.beq n 0 with
  | true =>
    have := Nat.eq_of_beq_eq_true hz
    subst this
    rw [hz] at e
    cases e
    refine ⟨[], fun w' hw => ?_, by simp [VRels], rfl⟩
    unfold lenV at hlen
    split at hlen
    · have : v = .slice none 0 0 := by simpa [VRel] using hx
      subst this; rfl
    · simp only [VRel] at hx
      obtain ⟨m, o, z, o', c, hb, rfl, _⟩ := hx
      simp only [Builtin.firstCells, Nat.zero_mul]
      rfl
    · obtain ⟨s, rfl, hs⟩ := vrel_s hx
      simp [Builtin.firstCells]
    · cases hlen
  | false =>
    rw [hz] at e
    have hn0 := Nat.ne_of_beq_eq_false hz
    simp only [cond_false] at e
    split at e
    · rename_i b off len cap
      obtain ⟨cs, hcs, e⟩ := R.bind_ok e
      rw [dropN_eq] at e
      obtain ⟨rfl, hle⟩ := takeR_ok e
      simp only [List.length_drop] at hle
      simp only [VRel] at hx
      obtain ⟨m, o, z, o', cc, hb, rfl, ho, hl, _⟩ := hx
      simp only [lenV] at hlen
      cases hlen
      have ho' := ho.resolve_right (by omega)
      subst ho'
      have hcs' := cells_ok hcs
      obtain ⟨_, _, _, _, _, _, _, hat, _⟩ := hr.cells b m o z cs hb hcs'
      have hat' : atoms ((cs.drop off).take (n * es)) = true := List.all_eq_true.2 fun y hy => List.all_eq_true.1 hat y (List.mem_of_mem_drop (List.mem_of_mem_take hy))
      by_cases hz : n * es = 0
      · refine ⟨[], fun w' hw => ?_, by rw [hz]; simp [VRels], hat'⟩
        simp only [Builtin.firstCells, hz]
        rfl
      · obtain ⟨vs, h1, h2, h3⟩ := range_of hr hb hcs' off (n * es) (by omega)
        refine ⟨vs, fun w' hw => ?_, h3, hat'⟩
        have := run_loadCells_list (P := P) w' ⟨m, o + off, none⟩ vs (fun j v hv => by rw [add_none]; have := h2 j v hv; simpa only [World.cell?, hw] using this)
        rw [h1] at this
        exact this
    · rename_i l
      obtain ⟨_, e⟩ := cond_ok e
      obtain ⟨l', hl', e⟩ := R.bind_ok e
      cases e
      obtain ⟨rfl, hle⟩ := takeR_ok hl'
      obtain ⟨s, rfl, rfl⟩ := vrel_s hx
      refine ⟨((s.data.toList.take n).map fun b => Value.int .u8 b.toNat), fun w' hw => ?_, ?_, ?_⟩
      · simp only [Builtin.firstCells, Sem.run_pure]
        congr 1
        apply Array.ext'
        simp [ByteArray.data_extract]
      · rw [← List.map_take, List.map_map]
        refine VRels.mk (by simp) fun i x v hx hv => ?_
        rw [List.getElem?_map] at hx hv
        cases hb : (s.data.toList.take n)[i]? with
        | none => rw [hb] at hx; cases hx
        | some b => rw [hb] at hx hv; cases hx; cases hv; exact vrel_mk_i
      · refine List.all_eq_true.2 fun x hx => ?_
        obtain ⟨n, _, rfl⟩ := List.mem_map.1 hx
        rfl
    · cases e
/-- the model's append, where there is room -/
theorem run_append_in {st xt t2 e es n : Nat} {d : TypeDesc} {base : Option Addr} {sl sc : Nat} {x : Value} {vs : List Value} {w' : World} (hu : P.underlying st = some (.slice e)) (hu2 : P.underlying xt = some d) (hd : d = .string ∨ ∃ e', d = .slice e')
    (hes : tSize P e = .ok es) (hn : (Builtin.lenOf x).run P w = .ok n w) (hf : (Builtin.firstCells es n x).run P w = .ok vs.toArray w) (hle : sl + n ≤ sc)
    (hst : (if let some a := base then storeCells (a.add (sl * es)) vs else pure () : Sem Unit).run P w = .ok () w') :
    (Builtin.append_ #[st, xt] t2 #[.slice base sl sc, x]).run P w = .ok (.slice base (sl + n) sc) w' := by
  rcases hd with rfl | ⟨e', rfl⟩ <;> cases base with
  | none =>
    simp only [Sem.run_pure] at hst
    cases hst
    simp only [Builtin.append_, List.getElem?_toArray, List.getElem?_cons_zero, List.getElem?_cons_succ, Sem.run_bind, run_underlying hu, run_underlying hu2, Result.andThen_ok, run_size hes, Bool.false_eq_true, if_false, hn, hle, if_true, Bool.not_false, hf, Sem.run_pure]
  | some a =>
    simp only at hst
    simp only [Builtin.append_, List.getElem?_toArray, List.getElem?_cons_zero, List.getElem?_cons_succ, Sem.run_bind, run_underlying hu, run_underlying hu2, Result.andThen_ok, run_size hes, Bool.false_eq_true, if_false, hn, hle, if_true, Bool.not_false, hf, Sem.run_pure, hst]
/-- .. and where there is none -/
theorem run_append_out {st xt t2 e es by_ n : Nat} {d : TypeDesc} {base : Option Addr} {sl sc : Nat} {x z : Value} {vs os : List Value} {i : TypeInfo} (hu : P.underlying st = some (.slice e)) (hu2 : P.underlying xt = some d) (hd : d = .string ∨ ∃ e', d = .slice e')
    (hes : tSize P e = .ok es) (hi : P.info? e = some i) (hby : i.bytes = by_) (hz : i.zero = some z) (hn : (Builtin.lenOf x).run P w = .ok n w) (hf : (Builtin.firstCells es n x).run P w.drew = .ok vs.toArray w.drew) (hle : ¬ sl + n ≤ sc)
    (hold : (Builtin.firstCells es sl (.slice base sl sc)).run P w.drew = .ok os.toArray w.drew) (hroom : (2 * (sl + n) + 2048) * by_ ≤ 281474976710656) (hsm : sl + n < 1099511627776) :
    (Builtin.append_ #[st, xt] t2 #[.slice base sl sc, x]).run P w =
      .ok (.slice (some ⟨w.heap.size, 0, none⟩) (sl + n) (grownCap w (sl + n) sc e)) (w.drew.alloc (.cells (os.toArray ++ vs.toArray ++ Builtin.zeroCells z.cells (grownCap w (sl + n) sc e - (sl + n))) e)) := by
  have hes' : i.size = es := by
    obtain ⟨i', hi', hs⟩ := tSize_ok hes
    rw [hi] at hi'
    cases hi'
    exact hs
  have h1 : ¬ (((sl + n : Nat) : Int) > IntKind.i64.max ∧ (False ∨ i.bytes = 0)) := by
    have : (IntKind.i64.max : Int) = 9223372036854775807 := by decide
    rw [this]; omega
  have h2 : ¬ (Builtin.nextslicecap (sl + n) sc * i.bytes > 2 ^ 48) := by
    have := nextcap_le (n := sl + n) (c := sc) (by omega)
    have h3 : Builtin.nextslicecap (sl + n) sc * i.bytes ≤ (2 * (sl + n) + 2048) * i.bytes := Nat.mul_le_mul_right _ this
    rw [hby] at h3 ⊢
    have : (2 : Nat) ^ 48 = 281474976710656 := by decide
    omega
  have hch : (choose (.appendCap (sl + n) sc e)).run P w = .ok (grownCap w (sl + n) sc e) w.drew := by
    simp [Question.forced, grownCap]
  have hz' : ∀ w : World, (zeroValue e).run P w = .ok z w := fun w => by simp [zeroValue, typeInfo, hi, hz]
  have hti : ∀ w : World, (typeInfo e).run P w = .ok i w := fun w => by simp [typeInfo, hi]
  rcases hd with rfl | ⟨e', rfl⟩
  all_goals
    simp only [Builtin.append_, List.getElem?_toArray, List.getElem?_cons_zero, List.getElem?_cons_succ, Sem.run_bind, run_underlying hu, run_underlying hu2, Result.andThen_ok, run_size hes, Bool.false_eq_true, if_false, hn, hle, Bool.not_false, if_true, hti, Sem.run_pure, h1, h2, hch, run_askRoom, hold, hf, hz', newRow, run_newObj]
    rfl
/-- append, as the machine does it -/
theorem appendR_sound {st xt t2 e es by_ n : Nat} {s r : V} {new : List V} {h' : H} {vs : List Value} {u v zv : Value} (hr : HRel ρ β h w) (hd : Dom β h)
    (hzs : zv.cells.size = es)
    (hin : ∀ (base : Option Addr) (sl sc : Nat) (w' : World), u = .slice base sl sc → sl + n ≤ sc → (if let some a := base then storeCells (a.add (sl * es)) vs else pure () : Sem Unit).run P w = .ok () w' → (Builtin.append_ #[st, xt] t2 #[u, v]).run P w = .ok (.slice base (sl + n) sc) w')
    (hout : ∀ (base : Option Addr) (sl sc : Nat) (os : List Value), u = .slice base sl sc → ¬ sl + n ≤ sc → (Builtin.firstCells es sl (.slice base sl sc)).run P w.drew = .ok os.toArray w.drew → (2 * (sl + n) + 2048) * by_ ≤ 281474976710656 → sl + n < 1099511627776 →
      (Builtin.append_ #[st, xt] t2 #[u, v]).run P w = .ok (.slice (some ⟨w.heap.size, 0, none⟩) (sl + n) (grownCap w (sl + n) sc e)) (w.drew.alloc (.cells (os.toArray ++ vs.toArray ++ Builtin.zeroCells zv.cells (grownCap w (sl + n) sc e - (sl + n))) e)))
    (hnew : VRels ρ β new vs) (ha : atoms new = true) (hnl : new.length = n * es)
    (e0 : appendR h es by_ s n new = .ok (r, h')) (hs : VRel ρ β s u) :
    ∃ q w', (Builtin.append_ #[st, xt] t2 #[u, v]).run P w = .ok q w' ∧ Acts ρ β h w r h' q w' := by
  have hvl := hnew.length
  -- a new row
  have out : ∀ (h0 : H) (base : Option Addr) (sl sc : Nat) (old : List V) (os : List Value), HRel ρ β h0 w → Dom β h0 → h0.nx = h.nx → u = .slice base sl sc → ¬ sl + n ≤ sc → room (sl + n) by_ = true → VRels ρ β old os → atoms old = true → old.length = sl * es →
      (Builtin.firstCells es sl (.slice base sl sc)).run P w.drew = .ok os.toArray w.drew →
      ∃ q w', (Builtin.append_ #[st, xt] t2 #[u, v]).run P w = .ok q w' ∧ Acts ρ β h w (.sl h.nx 0 (sl + n) (.lo (sl + n) es)) (h0.new (.cells (old ++ new))) q w' := by
    intro h0 base sl sc old os hr0 hd0 hnx hu' hle hroom ho hao hlo hold
    subst hu'
    simp only [room, ble_eq, blt_eq, Bool.and_eq_true, decide_eq_true_eq] at hroom
    have hrun := hout base sl sc os rfl hle hold hroom.1 hroom.2
    have hcap : sl + n ≤ grownCap w (sl + n) sc e := by
      unfold grownCap
      simp only [Question.cut]
      omega
    have hol := ho.length
    have hsize : (os.toArray ++ vs.toArray ++ Builtin.zeroCells zv.cells (grownCap w (sl + n) sc e - (sl + n))).size = grownCap w (sl + n) sc e * es := by
      simp only [Array.size_append, List.size_toArray, size_zeroCells, hzs, ← hol, ← hvl, hlo, hnl]
      rw [← Nat.add_mul, ← Nat.add_mul]
      congr 1
      omega
    have g := goes_new hr0 hd0 (b := .cells (old ++ new)) (ob := .cells (os.toArray ++ vs.toArray ++ Builtin.zeroCells zv.cells (grownCap w (sl + n) sc e - (sl + n))) e) (z := grownCap w (sl + n) sc e * es)
      ⟨_, _, (0, 0), rfl, hsize, fun i _ => by simp, by
        rw [List.length_append, hlo, hnl, ← Nat.add_mul]
        exact Nat.mul_le_mul_right _ hcap, by
        simp only [atoms, List.all_append, Bool.and_eq_true] at ha hao ⊢
        exact ⟨hao, ha⟩, by
        have : ((os.toArray ++ vs.toArray ++ Builtin.zeroCells zv.cells (grownCap w (sl + n) sc e - (sl + n))).toList.take (old ++ new).length) = os ++ vs := by
          simp only [Array.toList_append, List.length_append, hol, hvl]
          rw [← List.length_append, List.take_left]
        rw [this]
        exact ho.append hnew⟩ (w' := w.drew.alloc (.cells (os.toArray ++ vs.toArray ++ Builtin.zeroCells zv.cells (grownCap w (sl + n) sc e - (sl + n))) e)) rfl rfl rfl
    refine ⟨_, _, hrun, β.add h.nx (w.heap.size, 0, grownCap w (sl + n) sc e * es), ?_, vrel_new_sl hcap ⟨hcap, by omega⟩⟩
    rw [hnx] at g
    exact ⟨g.le, g.rel, g.dom, by have := g.nx; omega, g.frame, fun d m o z e1 e2 => by have := g.fresh d m o z e1 e2; rwa [hnx] at this⟩
  unfold appendR at e0
  split at e0
  · -- nil
    have hu0 : u = .slice none 0 0 := by simpa [VRel] using hs
    cases hz0 : Nat.beq n 0 with
    | true =>
      have := Nat.eq_of_beq_eq_true hz0
      subst this
      rw [hz0] at e0
      cases e0
      subst hu0
      refine ⟨.slice none 0 0, w, hin _ _ _ _ rfl (by omega) rfl, β, .refl hr hd, by simp [VRel]⟩
    | false =>
      rw [hz0] at e0
      have hn0 := Nat.ne_of_beq_eq_false hz0
      simp only [cond_false] at e0
      obtain ⟨hroom, e0⟩ := cond_ok e0
      cases e0
      have := out h none 0 0 [] [] hr hd rfl hu0 (by omega) (by simpa using hroom) (by simp [VRels]) rfl (by simp) rfl
      simpa using this
  · -- a slice
    rename_i b off len cap
    simp only at e0
    simp only [VRel] at hs
    obtain ⟨m, o, z', o', c, hb, hu0, ho, hlen, hcap⟩ := hs
    cases hge : capGe cap (Nat.add len n) with
    | true =>
      rw [hge] at e0
      simp only [cond_true] at e0
      obtain ⟨cs, hcs, e0⟩ := R.bind_ok e0
      obtain ⟨cs', hcs', e0⟩ := R.bind_ok e0
      cases e0
      have hle : len + n ≤ c := by
        cases cap with
        | ex k => simp only [capGe, ble_eq, decide_eq_true_eq, capRel] at hge hcap; show Nat.add len n ≤ c; omega
        | lo k es' => simp only [capGe, ble_eq, decide_eq_true_eq, capRel] at hge hcap; show Nat.add len n ≤ c; omega
      obtain ⟨g1, g2⟩ := goes_store hr hd hb (cells_ok hcs) hcs' ha hnew
      subst hu0
      have hst : (storeCells ((⟨m, o', none⟩ : Addr).add (len * es)) vs).run P w = .ok () (w.setCells m (o + Nat.add off (Nat.mul len es)) vs) := by
        rw [add_none]
        by_cases hc0 : c = 0
        · have : vs = [] := by
            have : n = 0 := by omega
            subst this
            simp at hnl
            rw [hnl] at hvl
            exact List.length_eq_zero_iff.1 hvl.symm
          subst this
          rfl
        · have ho' := ho.resolve_right hc0
          have := run_storeCells_cells (P := P) m (o' + len * es) vs 0 w (fun j hj => by
              have := (g1 j hj).1
              rw [ho']
              rwa [show o + off + len * es + 0 + j = o + Nat.add off (Nat.mul len es) + j by show o + off + len * es + 0 + j = o + (off + len * es) + j; omega])
            (fun j hj => by
              have := (g1 j hj).2
              rw [ho']
              rwa [show o + off + len * es + 0 + j = o + Nat.add off (Nat.mul len es) + j by show o + off + len * es + 0 + j = o + (off + len * es) + j; omega]) (oneCell_mem ha hnew)
          rw [this, ho']
          congr 2
          show o + off + len * es + 0 = o + (off + len * es)
          omega
      refine ⟨_, _, hin _ _ _ _ rfl hle hst, β, g2, ?_⟩
      simp only [VRel]
      exact ⟨m, o, z', o', c, hb, rfl, ho, hle, hcap⟩
    | false =>
      rw [hge] at e0
      simp only [cond_false] at e0
      obtain ⟨hroom, e0⟩ := cond_ok e0
      cases hlt : capLt cap (Nat.add len n) with
      | true =>
        rw [hlt] at e0
        simp only [cond_true] at e0
        obtain ⟨old, hold, e0⟩ := R.bind_ok e0
        cases e0
        have hle : ¬ len + n ≤ c := by
          cases cap with
          | ex k => simp only [capLt, blt_eq, decide_eq_true_eq, capRel] at hlt hcap; show ¬ Nat.add len n ≤ c; omega
          | lo k es' => simp [capLt] at hlt
        have hr' : HRel ρ β h w.drew := hr.of_heap rfl
        have hsv : VRel ρ β (.sl b off len cap) (.slice (some ⟨m, o', none⟩) len c) := by
          simp only [VRel]
          exact ⟨m, o, z', o', c, hb, rfl, ho, hlen, hcap⟩
        obtain ⟨os, k1, k2, k3⟩ := first_sound (P := P) hr' hold rfl (Nat.le_refl _) hsv
        have hol : old.length = len * es := by
          unfold firstR at hold
          cases hz0 : Nat.beq len 0 with
          | true => rw [hz0] at hold; cases hold; have := Nat.eq_of_beq_eq_true hz0; subst this; simp
          | false =>
            rw [hz0] at hold
            simp only [cond_false] at hold
            obtain ⟨cs, _, hold⟩ := R.bind_ok hold
            rw [dropN_eq] at hold
            obtain ⟨rfl, hh⟩ := takeR_ok hold
            simp at hh ⊢
            omega
        rw [app_eq]
        exact out h _ len c old os hr hd rfl hu0 hle hroom k2 k3 hol (k1 _ rfl)
      | false =>
        rw [hlt] at e0
        simp only [cond_false] at e0
        obtain ⟨hce, e0⟩ := cond_ok e0
        obtain ⟨cs, hcs, e0⟩ := R.bind_ok e0
        obtain ⟨old, hold, e0⟩ := R.bind_ok e0
        cases e0
        have hcs' := cells_ok hcs
        have hold0 := hold
        rw [dropN_eq] at hold
        obtain ⟨hold1, hold2⟩ := takeR_ok hold
        simp only [List.length_drop] at hold2
        have hol : old.length = len * es := by
          have e1 : Nat.mul len es = len * es := rfl
          rw [hold1, List.length_take, List.length_drop]
          omega
        obtain ⟨k, hk⟩ : ∃ k, cap = .lo k es := by
          cases cap with
          | ex k => simp [capGe, capLt, ble_eq, blt_eq] at hge hlt; omega
          | lo k es' => simp only [capEs] at hce; exact ⟨k, by rw [Nat.eq_of_beq_eq_true hce]⟩
        subst hk
        simp only [capRel] at hcap
        rw [app_eq]
        by_cases hle : len + n ≤ c
        · -- there is room: the same row goes on
          have hvn : vs.length = n * es := by rw [← hvl]; exact hnl
          have hc0 : c ≠ 0 := by
            intro hc0
            have h1 : len = 0 := by omega
            have h2 : n = 0 := by omega
            subst h1; subst h2
            simp [capGe, ble_eq] at hge
          have ho' := ho.resolve_right hc0
          have hz3 : o + off + old.length + vs.length ≤ z' := by
            rw [hol, hvn]
            have h1 : (len + n) * es ≤ c * es := Nat.mul_le_mul_right _ hle
            rw [Nat.add_mul] at h1
            omega
          obtain ⟨g1, g2⟩ := goes_grow hr hd hb hcs' (off := off) (old := old) (new := new) (by rw [hol]; exact hold0) ha hnew hz3
          subst hu0
          have hst : (storeCells ((⟨m, o', none⟩ : Addr).add (len * es)) vs).run P w = .ok () (w.setCells m (o + off + old.length) vs) := by
            rw [add_none, ho', hol]
            have := run_storeCells_cells (P := P) m (o + off + len * es) vs 0 w (fun j hj => by simpa [hol] using (g1 j hj).1) (fun j hj => by simpa [hol] using (g1 j hj).2) (oneCell_mem ha hnew)
            simpa using this
          refine ⟨_, _, hin _ _ _ _ rfl hle hst, _, g2, ?_⟩
          simp only [VRel]
          refine ⟨m, o + off, z', o', c, B.add_self _ _ _, rfl, .inl (by omega), hle, ?_⟩
          simp only [capRel]
          exact ⟨hle, hcap.2⟩
        · have hr' : HRel ρ β h w.drew := hr.of_heap rfl
          obtain ⟨os, k1, k2, k3⟩ : ∃ os : List Value, (Builtin.firstCells es len (.slice (some ⟨m, o', none⟩) len c)).run P w.drew = .ok os.toArray w.drew ∧ VRels ρ β old os ∧ atoms old = true := by
            have hsv : VRel ρ β (.sl b off len (.lo k es)) (.slice (some ⟨m, o', none⟩) len c) := by
              simp only [VRel, capRel]
              exact ⟨m, o, z', o', c, hb, rfl, ho, hlen, hcap⟩
            have hf1 : firstR h es len (.sl b off len (.lo k es)) = .ok old := by
              unfold firstR
              cases hz0 : Nat.beq len 0 with
              | true =>
                have := Nat.eq_of_beq_eq_true hz0
                subst this
                simp only [cond_true]
                have : old = [] := List.length_eq_zero_iff.1 (by simpa using hol)
                rw [this]
              | false =>
                simp only [cond_false]
                rw [hcs]
                exact hold0
            obtain ⟨os, k1, k2, k3⟩ := first_sound (P := P) hr' hf1 rfl (Nat.le_refl _) hsv
            exact ⟨os, k1 _ rfl, k2, k3⟩
          exact out (h.put b none) _ len c old os (hrel_forget hr b) hd rfl hu0 hle hroom k2 k3 hol k1
  · cases e0
end Go.Dm
namespace Go.Dm
variable {ρ : Env} {β : B} {P : Program} {h : H} {w : World}

theorem keyAtomic_ok {kt : Nat} (e : keyAtomic P kt = true) : ∃ k, tKa P kt = some k ∧ ((k = .b ∧ P.underlying kt = some .bool) ∨ (k = .i ∧ ∃ q, P.underlying kt = some (.int q)) ∨ (k = .s ∧ P.underlying kt = some .string)) := by
  unfold keyAtomic at e
  split at e
  · rename_i k hk
    refine ⟨k, hk, ?_⟩
    unfold tKa at hk
    split at hk
    · rename_i hu; cases hk; exact .inl ⟨rfl, hu⟩
    · rename_i hu; cases hk; exact .inr (.inl ⟨rfl, _, hu⟩)
    · rename_i hu; cases hk; exact .inr (.inr ⟨rfl, hu⟩)
    · split at hk
      · rename_i i _
        cases hz : Nat.beq i.size 0 <;> rw [hz] at hk <;> cases hk
        cases e
      · cases hk
    all_goals (cases hk <;> cases e)
  · cases e
theorem same_now {kt : Nat} (hk : keyAtomic P kt = true) {x y : V} {r : Bool} (e : eqV P kt x y = .ok r) {v u : Value} (hx : VRel ρ β x v) (hy : VRel ρ β y u) : ∃ d, P.underlying kt = some d ∧ Instr.sameNow d v u = some r := by
  obtain ⟨k, hka, hor⟩ := keyAtomic_ok hk
  unfold eqV at e
  split at e
  · split at e
    · rename_i k' hk'
      rw [hka] at hk'
      cases hk'
      obtain ⟨h1, h2⟩ := cond_ok e
      simp only [Bool.and_eq_true] at h1
      obtain ⟨k1, k2⟩ := h1
      rcases hor with ⟨rfl, hu⟩ | ⟨rfl, q, hu⟩ | ⟨rfl, hu⟩
      · cases x <;> simp only [kaOk, Bool.false_eq_true] at k1
        cases y <;> simp only [kaOk, Bool.false_eq_true] at k2
        rw [vrel_b hx, vrel_b hy]
        refine ⟨_, hu, ?_⟩
        simp only [eqAtom] at h2
        cases h2
        rename_i a c
        cases a <;> cases c <;> rfl
      · cases x <;> simp only [kaOk, Bool.false_eq_true] at k1
        cases y <;> simp only [kaOk, Bool.false_eq_true] at k2
        rw [vrel_i hx, vrel_i hy]
        refine ⟨_, hu, ?_⟩
        simp only [eqAtom] at h2
        obtain ⟨h3, h4⟩ := cond_ok h2
        have := kindBeq_eq h3
        subst this
        cases h4
        simp [Instr.sameNow, intBeq_eq]
      · cases x <;> simp only [kaOk, Bool.false_eq_true] at k1
        cases y <;> simp only [kaOk, Bool.false_eq_true] at k2
        obtain ⟨s, rfl, rfl⟩ := vrel_s hx
        obtain ⟨s', rfl, rfl⟩ := vrel_s hy
        refine ⟨_, hu, ?_⟩
        simp only [eqAtom] at h2
        cases h2
        simp only [Instr.sameNow, beq_toListBytes, bytes_eq]
    · cases e
  · exfalso
    rename_i n ha
    rw [tKa_none_agg ha] at hka
    cases hka
/-- what the machine's search tells of every entry -/
theorem findKey_ok {kt : Nat} {k : V} : ∀ {es : List (V × V)} {r : Option V}, findKey P kt k es = .ok r →
    (r = none ∧ ∀ e ∈ es, eqV P kt k e.1 = .ok false) ∨ ∃ pre e post, es = pre ++ e :: post ∧ r = some e.2 ∧ eqV P kt k e.1 = .ok true ∧ ∀ e' ∈ pre ++ post, eqV P kt k e'.1 = .ok false
  | [], r, h => by simp only [findKey] at h; cases h; exact .inl ⟨rfl, by simp⟩
  | e :: es, r, h => by
    simp only [findKey] at h
    obtain ⟨b, hb, h⟩ := R.bind_ok h
    obtain ⟨q, hq, h⟩ := R.bind_ok h
    cases b with
    | false =>
      simp only [pickKey] at h
      cases h
      rcases findKey_ok hq with ⟨rfl, h1⟩ | ⟨pre, e', post, rfl, rfl, h2, h3⟩
      · refine .inl ⟨rfl, fun x hx => ?_⟩
        rcases List.mem_cons.1 hx with rfl | hx
        · exact hb
        · exact h1 x hx
      · refine .inr ⟨e :: pre, e', post, rfl, rfl, h2, fun x hx => ?_⟩
        rcases List.mem_cons.1 hx with rfl | hx
        · exact hb
        · exact h3 x hx
    | true =>
      simp only [pickKey] at h
      split at h
      · cases h
        rcases findKey_ok hq with ⟨_, h1⟩ | ⟨_, _, _, _, h2, _⟩
        · exact .inr ⟨[], e, es, rfl, rfl, hb, by simpa using h1⟩
        · cases h2
      · cases h
/-- the model's search -/
theorem findNow_ok (kd : TypeDesc) (k : Value) : ∀ (es : List MapEntry) (i : Nat), (∀ e ∈ es, ∃ r, Instr.sameNow kd k e.key = some r) →
    (Instr.findNow kd k es i = some none ∧ ∀ e ∈ es, Instr.sameNow kd k e.key = some false) ∨
    ∃ pre e post, es = pre ++ e :: post ∧ Instr.findNow kd k es i = some (some (i + pre.length, e.val)) ∧ Instr.sameNow kd k e.key = some true
  | [], i, _ => .inl ⟨rfl, by simp⟩
  | e :: es, i, h => by
    obtain ⟨r, hr⟩ := h e (by simp)
    cases r with
    | true => exact .inr ⟨[], e, es, rfl, by simp [Instr.findNow, hr], hr⟩
    | false =>
      rcases findNow_ok kd k es (i + 1) (fun x hx => h x (by simp [hx])) with ⟨h1, h2⟩ | ⟨pre, e', post, rfl, h1, h2⟩
      · refine .inl ⟨by simp [Instr.findNow, hr, h1], fun x hx => ?_⟩
        rcases List.mem_cons.1 hx with rfl | hx
        · exact hr
        · exact h2 x hx
      · refine .inr ⟨e :: pre, e', post, rfl, ?_, h2⟩
        simp only [Instr.findNow, hr, h1, List.length_cons]
        rw [show i + 1 + pre.length = i + (pre.length + 1) by omega]
theorem keyKd_or {kt : Nat} (hk : keyKd P kt = true) : keyAtomic P kt = true ∨ ∃ n, tAgg P kt = some n := by
  unfold keyKd at hk
  split at hk
  · rename_i n hn; exact .inr ⟨n, hn⟩
  · exact .inl hk
theorem checkKey_atom {kt : Nat} {d : TypeDesc} (hu : P.underlying kt = some d) (hd : d.isRow = false) (hi : ∀ ms, d ≠ .interface ms) (b : Bool) (v : Value) (w : World) (n : Nat) : (Instr.checkKey b (n + 1) kt v).run P w = .ok () w := by
  simp only [Instr.checkKey, Sem.run_bind, run_underlying hu, Result.andThen_ok]
  cases d <;> first
    | (exact absurd rfl (hi _))
    | (simp [TypeDesc.isRow] at hd; done)
    | (cases v <;> rfl)
/-- is this entry's key the one that is looked for? -/
def Same (P : Program) (kt : Nat) (w : World) (kv : Value) (y : MapEntry) (r : Bool) : Prop := (∃ d, P.underlying kt = some d ∧ Instr.sameNow d kv y.key = some r) ∨ ((∃ d, P.underlying kt = some d ∧ ∀ a b, Instr.sameNow d a b = none) ∧ (Op.equal kt kv y.key).run P w = .ok r w)
theorem Same.one {kt : Nat} {kv : Value} {y : MapEntry} (h : Same P kt w kv y true) (h' : Same P kt w kv y false) : False := by
  rcases h with ⟨d, h1, h2⟩ | ⟨⟨d, h1, h2⟩, h3⟩ <;> rcases h' with ⟨d', h1', h2'⟩ | ⟨⟨d', h1', h2'⟩, h3'⟩
  all_goals (rw [h1] at h1'; cases h1')
  · rw [h2] at h2'; cases h2'
  · rw [h2'] at h2; cases h2
  · rw [h2] at h2'; cases h2'
  · rw [h3] at h3'; cases h3'
theorem same_of {kt : Nat} (hk : keyKd P kt = true) {x y : V} {r : Bool} (e : eqV P kt x y = .ok r) {v : Value} {u : MapEntry} (hx : VRel ρ β x v) (hy : VRel ρ β y u.key) (w : World) : Same P kt w v u r := by
  rcases keyKd_or hk with h | ⟨n, h⟩
  · exact .inl (same_now h e hx hy)
  · obtain ⟨⟨d, hu, hd⟩, _⟩ := tAgg_some h
    refine .inr ⟨⟨d, hu, fun a b => ?_⟩, (eqV_sound e hx hy w).1⟩
    cases d <;> simp [TypeDesc.isRow] at hd <;> cases a <;> cases b <;> rfl
theorem findAsking_ok {kt : Nat} (kv : Value) (w : World) : ∀ (es : List MapEntry) (i : Nat), (∀ e ∈ es, ∃ r, (Op.equal kt kv e.key).run P w = .ok r w) →
    ((Instr.findAsking kt kv es i).run P w = .ok none w ∧ ∀ e ∈ es, (Op.equal kt kv e.key).run P w = .ok false w) ∨
    ∃ pre e post, es = pre ++ e :: post ∧ (Instr.findAsking kt kv es i).run P w = .ok (some (i + pre.length, e.val)) w ∧ (Op.equal kt kv e.key).run P w = .ok true w
  | [], i, _ => .inl ⟨rfl, by simp⟩
  | e :: es, i, h => by
    obtain ⟨r, hr⟩ := h e (by simp)
    cases r with
    | true => exact .inr ⟨[], e, es, rfl, by simp [Instr.findAsking, hr], hr⟩
    | false =>
      rcases findAsking_ok kv w es (i + 1) (fun x hx => h x (by simp [hx])) with ⟨h1, h2⟩ | ⟨pre, e', post, rfl, h1, h2⟩
      · refine .inl ⟨by simp [Instr.findAsking, hr, h1], fun x hx => ?_⟩
        rcases List.mem_cons.1 hx with rfl | hx
        · exact hr
        · exact h2 x hx
      · refine .inr ⟨e :: pre, e', post, rfl, ?_, h2⟩
        simp only [Instr.findAsking, Sem.run_bind, hr, Result.andThen_ok, Bool.false_eq_true, if_false, h1, List.length_cons]
        rw [show i + 1 + pre.length = i + (pre.length + 1) by omega]
theorem findKey_run {kt : Nat} {kv : Value} (w : World) (es : List MapEntry) (hu : ∃ d, P.underlying kt = some d) (h : ∀ e ∈ es, ∃ r, Same P kt w kv e r) :
    ((Instr.findKey kt kv es).run P w = .ok none w ∧ ∀ e ∈ es, Same P kt w kv e false) ∨
    ∃ pre e post, es = pre ++ e :: post ∧ (Instr.findKey kt kv es).run P w = .ok (some (pre.length, e.val)) w ∧ Same P kt w kv e true := by
  obtain ⟨d, hu⟩ := hu
  by_cases hnow : ∀ e ∈ es, ∃ r, Instr.sameNow d kv e.key = some r
  · rcases findNow_ok d kv es 0 hnow with ⟨h1, h2⟩ | ⟨pre, e, post, rfl, h1, h2⟩
    · exact .inl ⟨by simp only [Instr.findKey, Sem.run_bind, run_underlying hu, Result.andThen_ok, h1, Sem.run_pure], fun e he => .inl ⟨d, hu, h2 e he⟩⟩
    · exact .inr ⟨pre, e, post, rfl, by simp only [Instr.findKey, Sem.run_bind, run_underlying hu, Result.andThen_ok, h1, Sem.run_pure, Nat.zero_add], .inl ⟨d, hu, h2⟩⟩
  · have hno : ∀ a b, Instr.sameNow d a b = none := by
      have : ∃ e, e ∈ es ∧ ¬ ∃ r, Instr.sameNow d kv e.key = some r := by
        by_cases hh : ∃ e, e ∈ es ∧ ¬ ∃ r, Instr.sameNow d kv e.key = some r
        · exact hh
        · exact absurd (fun e he => Classical.byContradiction fun hr => hh ⟨e, he, hr⟩) hnow
      obtain ⟨e, he, hne⟩ := this
      obtain ⟨r, hr⟩ := h e he
      rcases hr with ⟨d', h1, h2⟩ | ⟨⟨d', h1, h2⟩, _⟩
      · rw [hu] at h1; cases h1; exact absurd ⟨r, h2⟩ hne
      · rw [hu] at h1; cases h1; exact h2
    have heq : ∀ e ∈ es, ∃ r, (Op.equal kt kv e.key).run P w = .ok r w := by
      intro e he
      obtain ⟨r, hr⟩ := h e he
      rcases hr with ⟨d', h1, h2⟩ | ⟨_, h3⟩
      · rw [hu] at h1; cases h1; rw [hno] at h2; cases h2
      · exact ⟨r, h3⟩
    have hfk : (Instr.findKey kt kv es).run P w = (Instr.findAsking kt kv es 0).run P w := by
      cases es with
      | nil => simp [Instr.findKey, run_underlying hu, Instr.findNow, Instr.findAsking]
      | cons e es => simp only [Instr.findKey, Sem.run_bind, run_underlying hu, Result.andThen_ok, Instr.findNow, hno]
    rcases findAsking_ok kv w es 0 heq with ⟨h1, h2⟩ | ⟨pre, e, post, rfl, h1, h2⟩
    · exact .inl ⟨by rw [hfk, h1], fun e he => .inr ⟨⟨d, hu, hno⟩, h2 e he⟩⟩
    · exact .inr ⟨pre, e, post, rfl, by rw [hfk, h1]; simp, .inr ⟨⟨d, hu, hno⟩, h2⟩⟩
/-- the two searches find the same -/
theorem find_sound {kt : Nat} (hk : keyKd P kt = true) {k : V} {kv : Value} (hkv : VRel ρ β k kv) {es : List (V × V)} {entries : Array MapEntry} {clock : Nat} (hm : MRel ρ β es entries clock) {r : Option V} (e : findKey P kt k es = .ok r) (w : World) :
    (r = none ∧ (Instr.findKey kt kv entries.toList).run P w = .ok none w) ∨
    ∃ pre x post a y b l₁ l₂, es = pre ++ x :: post ∧ r = some x.2 ∧ eqV P kt k x.1 = .ok true ∧ (∀ e' ∈ pre ++ post, eqV P kt k e'.1 = .ok false) ∧ entries.toList = a ++ y :: b ∧ (Instr.findKey kt kv entries.toList).run P w = .ok (some (a.length, y.val)) w ∧
      (l₁ ++ y :: l₂).Perm entries.toList ∧ VRels ρ β (pre.map (·.1)) (l₁.map (·.key)) ∧ VRels ρ β (pre.map (·.2)) (l₁.map (·.val)) ∧ VRels ρ β (post.map (·.1)) (l₂.map (·.key)) ∧ VRels ρ β (post.map (·.2)) (l₂.map (·.val)) ∧ VRel ρ β x.2 y.val ∧ VRel ρ β x.1 y.key := by
  obtain ⟨⟨l, hp, hks, hvs⟩, _⟩ := hm
  have hlen : l.length = es.length := by have := hks.length; simpa using this.symm
  have hat : ∀ (i : Nat) (x : V × V) (y : MapEntry), es[i]? = some x → l[i]? = some y → VRel ρ β x.1 y.key ∧ VRel ρ β x.2 y.val := by
    intro i x y hx hy
    have e1 : (es.map (·.1))[i]? = some x.1 := by rw [List.getElem?_map, hx]; rfl
    have e2 : (es.map (·.2))[i]? = some x.2 := by rw [List.getElem?_map, hx]; rfl
    obtain ⟨v, hv, h1⟩ := hks.get e1
    obtain ⟨u, hu, h2⟩ := hvs.get e2
    rw [List.getElem?_map, hy] at hv hu
    cases hv; cases hu
    exact ⟨h1, h2⟩
  have hkd : ∃ kd, P.underlying kt = some kd := by
    rcases keyKd_or hk with h | ⟨n, h⟩
    · obtain ⟨_, _, hor⟩ := keyAtomic_ok h
      rcases hor with ⟨_, hu⟩ | ⟨_, q, hu⟩ | ⟨_, hu⟩ <;> exact ⟨_, hu⟩
    · obtain ⟨⟨d, hu, _⟩, _⟩ := tAgg_some h
      exact ⟨d, hu⟩
  have hnow : ∀ (x : V × V) (y : MapEntry) r, eqV P kt k x.1 = .ok r → VRel ρ β x.1 y.key → Same P kt w kv y r := fun x y r hr hxy => same_of hk hr hkv hxy w
  have hall : ∀ y ∈ entries.toList, ∃ r, Same P kt w kv y r := by
    intro y hy
    obtain ⟨i, hi⟩ := List.getElem?_of_mem (hp.mem_iff.2 hy)
    have hil : i < l.length := (List.getElem?_eq_some_iff.1 hi).1
    obtain ⟨xx, hx⟩ : ∃ xx, es[i]? = some xx := ⟨_, List.getElem?_eq_getElem (by omega)⟩
    have hmem : xx ∈ es := List.mem_of_getElem? hx
    have hr : ∃ r, eqV P kt k xx.1 = .ok r := by
      rcases findKey_ok e with ⟨_, h1⟩ | ⟨pre, x, post, he, _, h2, h3⟩
      · exact ⟨_, h1 _ hmem⟩
      · rw [he] at hmem
        rcases List.mem_append.1 hmem with hm' | hm'
        · exact ⟨_, h3 _ (List.mem_append.2 (.inl hm'))⟩
        · rcases List.mem_cons.1 hm' with hm' | hm'
          · rw [hm']; exact ⟨_, h2⟩
          · exact ⟨_, h3 _ (List.mem_append.2 (.inr hm'))⟩
    obtain ⟨r, hr⟩ := hr
    exact ⟨r, hnow _ _ r hr (hat i _ _ hx hi).1⟩
  rcases findKey_ok e with ⟨rfl, h1⟩ | ⟨pre, x, post, rfl, rfl, h2, h3⟩
  · left
    refine ⟨rfl, ?_⟩
    rcases findKey_run w entries.toList hkd hall with ⟨k1, _⟩ | ⟨a, y, b, k1, _, k3⟩
    · exact k1
    · exfalso
      have hy : y ∈ l := hp.mem_iff.2 (by rw [k1]; simp)
      obtain ⟨i, hi⟩ := List.getElem?_of_mem hy
      have hil : i < l.length := (List.getElem?_eq_some_iff.1 hi).1
      have hx : es[i]? = some (es[i]'(by omega)) := List.getElem?_eq_getElem (by omega)
      exact k3.one (hnow _ _ _ (h1 _ (List.getElem_mem _)) (hat i _ _ hx hi).1)
  · right
    -- the entry at the same place of l
    have hj : pre.length < l.length := by rw [hlen]; simp
    have hlsplit : l = l.take pre.length ++ l[pre.length] :: l.drop (pre.length + 1) := by
      rw [← List.drop_eq_getElem_cons hj, List.take_append_drop]
    have hx : (pre ++ x :: post)[pre.length]? = some x := by simp
    have hy := hat pre.length x l[pre.length] hx (List.getElem?_eq_getElem hj)
    have htrue := hnow x _ _ h2 hy.1
    have hfalse : ∀ (i : Nat) (y : MapEntry), l[i]? = some y → i ≠ pre.length → Same P kt w kv y false := by
      intro i y hi hne
      have hil : i < l.length := (List.getElem?_eq_some_iff.1 hi).1
      have hx' : (pre ++ x :: post)[i]? = some ((pre ++ x :: post)[i]'(by omega)) := List.getElem?_eq_getElem (by omega)
      refine hnow _ _ _ ?_ (hat i _ _ hx' hi).1
      by_cases hlt : i < pre.length
      · rw [List.getElem_append_left hlt]
        exact h3 _ (List.mem_append.2 (.inl (List.getElem_mem _)))
      · have hgt : pre.length + 1 ≤ i := by omega
        rw [List.getElem_append_right (by omega)]
        have hn : i - pre.length = (i - pre.length - 1) + 1 := by omega
        rw [List.getElem_cons]
        split
        · omega
        · exact h3 _ (List.mem_append.2 (.inr (List.getElem_mem _)))
    rcases findKey_run w entries.toList hkd hall with ⟨_, k2⟩ | ⟨a, y, b, k1, k2, k3⟩
    · exfalso
      have := k2 l[pre.length] (hp.mem_iff.1 (List.getElem_mem _))
      exact htrue.one this
    · have hyl : y ∈ l := hp.mem_iff.2 (by rw [k1]; simp)
      obtain ⟨i, hi⟩ := List.getElem?_of_mem hyl
      have hii : i = pre.length := by
        by_cases hne : i = pre.length
        · exact hne
        · exact (k3.one (hfalse i y hi hne)).elim
      subst hii
      have hye : l[pre.length] = y := by
        rw [List.getElem?_eq_getElem hj] at hi
        exact Option.some.inj hi
      rw [hye] at hlsplit hy
      have t1 := hks.take pre.length
      have t2 := hvs.take pre.length
      have d1 := hks.drop (pre.length + 1)
      have d2 := hvs.drop (pre.length + 1)
      rw [← List.map_take, ← List.map_take] at t1 t2
      rw [← List.map_drop, ← List.map_drop] at d1 d2
      have e1 : (pre ++ x :: post).take pre.length = pre := by simp
      have e2 : (pre ++ x :: post).drop (pre.length + 1) = post := by simp [List.drop_append]
      rw [e1] at t1 t2
      rw [e2] at d1 d2
      refine ⟨pre, x, post, a, y, b, l.take pre.length, l.drop (pre.length + 1), rfl, rfl, h2, h3, k1, k2, by rw [← hlsplit]; exact hp, t1, t2, d1, d2, hy.2, hy.1⟩
theorem run_forIn_unit {α : Type} {w : World} {g : α → PUnit → Sem (ForInStep PUnit)} : ∀ {l : List α}, (∀ x ∈ l, (g x ⟨⟩).run P w = .ok (.yield ⟨⟩) w) → (forIn l PUnit.unit g).run P w = .ok ⟨⟩ w
  | [], _ => by simp
  | a :: l, h => by
    have h1 := h a List.mem_cons_self
    have h2 := run_forIn_unit (l := l) fun x hx => h x (List.mem_cons_of_mem _ hx)
    simp only [List.forIn_cons, Sem.run_bind, h1, Result.andThen_ok, h2]
theorem eqParts_all {rec : Nat → List V → List V → R Bool} {xs : List V} : ∀ {l : List (Nat × Nat × Nat)}, eqParts rec xs xs l = .ok true → ∀ p ∈ l, ∃ a, takeR (dropN xs p.2.1) p.2.2 = .ok a ∧ rec p.1 a a = .ok true
  | [], _, _, h => by cases h
  | q :: l, h, p, hp => by
    obtain ⟨a, b, r₁, ha, hb, hr, hor⟩ := eqParts_cons h
    rw [ha] at hb
    cases hb
    rcases hor with ⟨rfl, h'⟩ | ⟨_, h'⟩
    · rcases List.mem_cons.1 hp with rfl | hp
      · exact ⟨a, ha, hr⟩
      · exact eqParts_all h' p hp
    · cases h'
theorem mapR_mem {α γ : Type} {f : α → R γ} : ∀ {l : List α} {r : List γ}, mapR f l = .ok r → ∀ a ∈ l, ∃ b ∈ r, f a = .ok b
  | [], _, _, a, h => by cases h
  | x :: l, r, e, a, h => by
    obtain ⟨b, bs, h1, h2, rfl⟩ := mapR_cons e
    rcases List.mem_cons.1 h with rfl | h
    · exact ⟨b, List.mem_cons_self, h1⟩
    · obtain ⟨c, hc, hf⟩ := mapR_mem h2 a h
      exact ⟨c, List.mem_cons_of_mem _ hc, hf⟩
theorem tKa_plain {t : Nat} {k : Ka} (h : tKa P t = some k) : ∃ d, P.underlying t = some d ∧ d.isRow = false ∧ ∀ ms, d ≠ .interface ms := by
  obtain ⟨d, hu, hd⟩ := tKa_under h
  refine ⟨d, hu, hd, ?_⟩
  rintro ms rfl
  unfold tKa at h
  rw [hu] at h
  cases h
theorem check_row : ∀ (d D : Nat) (t : Nat) (xs : List V), d ≤ D → eqT P d t xs xs = .ok true → ∀ vs v, VRels ρ β xs vs → ofCells P t vs = some v → ∀ b (w : World), (Instr.checkKey b D t v).run P w = .ok () w
  | 0, D, t, xs, _, h, _, _, _, _, _, _ => by simp [eqT] at h
  | d + 1, 0, t, xs, hD, _, _, _, _, _, _, _ => by omega
  | d + 1, D + 1, t, xs, hD, h, vs, v, hx, hv, b, w => by
    have part : ∀ (pt off s : Nat) (a : List V), tSize P pt = .ok s → takeR (dropN xs off) s = .ok a → eqT P d pt a a = .ok true → ∃ u, (Go.part pt vs.toArray off).run P w = .ok u w ∧ (Instr.checkKey b D pt u).run P w = .ok () w := by
      intro pt off s a hs ha he
      rw [dropN_eq] at ha
      obtain ⟨rfl, hle⟩ := takeR_ok ha
      simp only [List.length_drop] at hle
      have hxa := (hx.drop off).take s
      obtain ⟨u, hu⟩ := ofCells_of he hxa
      have hl := hx.length
      by_cases hs0 : off + s ≤ vs.length
      · exact ⟨u, run_part hs (by simpa using hs0) (eqT_under he) (by simpa using hu) w, check_row d D pt _ (by omega) he _ _ hxa hu b w⟩
      · have hz : s = 0 := by omega
        subst hz
        refine ⟨u, ?_, check_row d D pt _ (by omega) he _ _ hxa hu b w⟩
        simp only [List.take_zero] at hu
        cases hag : tAgg P pt with
        | none => simp [ofCells, hag] at hu
        | some m =>
          unfold Go.part
          simp only [ofCells, hag] at hu
          cases hu
          simp only [Sem.run_bind, run_isAgg_some hag, Result.andThen_ok, if_true, run_size hs, Sem.run_pure]
          congr 2
          apply Array.ext'
          simp
    simp only [eqT] at h
    split at h
    · rename_i k hk
      obtain ⟨dd, hu, hd, hi⟩ := tKa_plain hk
      exact checkKey_atom hu hd hi b v w D
    · obtain ⟨l, hl, h⟩ := R.bind_ok h
      have hall := eqParts_all h
      unfold tParts at hl
      split at hl
      · rename_i fs hus
        have hag : ∃ n, tAgg P t = some n := by
          cases ha : tAgg P t with
          | some n => exact ⟨n, rfl⟩
          | none => have := tAgg_none ha hus; simp [TypeDesc.isRow] at this
        obtain ⟨n, hag⟩ := hag
        simp only [ofCells, hag] at hv
        cases hv
        cases hst : P.stoodInHeld t with
        | true => rw [hst] at hl; cases hl
        | false =>
          rw [hst] at hl
          simp only [cond_false] at hl
          simp only [Instr.checkKey, Sem.run_bind, run_underlying hus, Result.andThen_ok]
          rw [← Array.forIn_toList]
          have := run_forIn_unit (P := P) (w := w) (l := fs.toList) (g := fun f _ => do
            if f.name ≠ "_" then do
              let x ← Go.part f.type vs.toArray f.offset
              Instr.checkKey b D f.type x
              pure (ForInStep.yield PUnit.unit)
            else pure (ForInStep.yield PUnit.unit)) ?_
          · rw [this]; rfl
          · intro f hf
            obtain ⟨p, hp, hpe⟩ := mapR_mem hl f hf
            have hname : (f.name == "_") = false := by
              cases hq : f.name == "_" with
              | false => rfl
              | true => rw [hq] at hpe; cases hpe
            rw [hname] at hpe
            simp only [cond_false] at hpe
            obtain ⟨s, hs, hpe⟩ := R.bind_ok hpe
            cases hpe
            obtain ⟨a, ha, he⟩ := hall _ hp
            obtain ⟨u, e1, e2⟩ := part _ _ _ a hs ha he
            have hname' : f.name ≠ "_" := by simpa using hname
            simp only [hname', ne_eq, not_false_eq_true, if_true, Sem.run_bind, e1, e2, Result.andThen_ok, Sem.run_pure]
      · rename_i n e hus
        have hag : ∃ n, tAgg P t = some n := by
          cases ha : tAgg P t with
          | some n => exact ⟨n, rfl⟩
          | none => have := tAgg_none ha hus; simp [TypeDesc.isRow] at this
        obtain ⟨m, hag⟩ := hag
        simp only [ofCells, hag] at hv
        cases hv
        obtain ⟨s, hs, hl⟩ := R.bind_ok hl
        cases hl
        simp only [Instr.checkKey, Sem.run_bind, run_underlying hus, Result.andThen_ok]
        rw [Std.Legacy.Range.forIn_eq_forIn_range']
        have := run_forIn_unit (P := P) (w := w) (l := List.range' 0 n 1) (g := fun i _ => do
            let q ← sizeOf e
            let x ← Go.part e vs.toArray (i * q)
            Instr.checkKey b D e x
            pure (ForInStep.yield PUnit.unit)) ?_
        · have hsz : Std.Legacy.Range.size [:n] = n := by simp [Std.Legacy.Range.size]
          rw [hsz]
          rw [this]; rfl
        · intro i hi
          obtain ⟨a, ha, he⟩ := hall (e, i * s, s) (List.mem_map.2 ⟨i, by rw [List.range_eq_range']; exact hi, rfl⟩)
          obtain ⟨u, e1, e2⟩ := part _ _ _ a hs ha he
          simp only [Sem.run_bind, run_size hs, e1, e2, Result.andThen_ok, Sem.run_pure]
      · cases hl
theorem checkKey_ok {kt : Nat} (hk : keyKd P kt = true) {k : V} {kv : Value} (ho : kaOf P kt k = true) (hkv : VRel ρ β k kv) (b : Bool) (w : World) : (Instr.checkKey b 10000 kt kv).run P w = .ok () w := by
  generalize h10 : 10000 = D
  have hD : 12 ≤ D := by omega
  clear h10
  rcases keyKd_or hk with h | ⟨n, h⟩
  · obtain ⟨k', hk', _⟩ := keyAtomic_ok h
    obtain ⟨dd, hu, hd, hi⟩ := tKa_plain hk'
    obtain ⟨D', rfl⟩ : ∃ D', D = D' + 1 := ⟨D - 1, by omega⟩
    exact checkKey_atom hu hd hi b kv w D'
  · unfold kaOf at ho
    rw [h] at ho
    simp only at ho
    cases he : eqV P kt k k with
    | err c => rw [he] at ho; cases ho
    | ok r =>
      rw [he] at ho
      simp only at ho
      subst ho
      unfold eqV at he
      rw [h] at he
      simp only at he
      split at he
      · simp only at he
        obtain ⟨_, he⟩ := cond_ok he
        simp only [VRel] at hkv
        obtain ⟨vs, rfl, _, hvs⟩ := hkv
        exact check_row 12 D kt _ hD he _ _ hvs (by simp [ofCells, h]) b w
      · cases he
end Go.Dm
