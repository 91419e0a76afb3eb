/- maps.Copy: the entries of one map laid into another one, none of whose keys it has. -/
import Derived.Test.YtfpainkkolggiaaGreatDmF
import Derived.Maps.RangeRun
import Derived.Lib.UnsafeStr
import Derived.Lib.BufferWrite
namespace Go.Dm
variable {ρ : Env} {P : Program}

-- WHAT WAS TOLD BY ELDER BLOCKS ALONE IS TOLD BY THEM STILL
mutual
theorem VRel.back {β β' : B} (hl : β.le β') : ∀ (x : V) (v u : Value), VRel ρ β x v → VRel ρ β' x u → VRel ρ β x u
  | .b _, _, _, _, e => by simpa [VRel] using e
  | .i _ _, _, _, _, e => by simpa [VRel] using e
  | .x _ _, _, _, _, e => by simpa [VRel] using e
  | .s _, _, _, _, e => by simpa [VRel] using e
  | .r _, _, _, _, e => by simpa [VRel] using e
  | .p0, _, _, _, e => by simpa [VRel] using e
  | .p _ _, _, _, h, e => by
    simp only [VRel] at h e ⊢
    obtain ⟨m, o, z, hb, _⟩ := h
    obtain ⟨m', o', z', hb', hv⟩ := e
    rw [hl _ _ hb] at hb'
    cases hb'
    exact ⟨m, o, z, hb, hv⟩
  | .sl0, _, _, _, e => by simpa [VRel] using e
  | .sl _ _ _ _, _, _, h, e => by
    simp only [VRel] at h e ⊢
    obtain ⟨m, o, z, _, _, hb, _⟩ := h
    obtain ⟨m', o', z', o'', c, hb', hv⟩ := e
    rw [hl _ _ hb] at hb'
    cases hb'
    exact ⟨m, o, z, o'', c, hb, hv⟩
  | .m0, _, _, _, e => by simpa [VRel] using e
  | .m _, _, _, h, e => by
    simp only [VRel] at h e ⊢
    obtain ⟨m, o, z, hb, _⟩ := h
    obtain ⟨m', o', z', hb', hv⟩ := e
    rw [hl _ _ hb] at hb'
    cases hb'
    exact ⟨m, o, z, hb, hv⟩
  | .fn _ fs cs, _, _, h, e => by
    simp only [VRel] at h e ⊢
    obtain ⟨_, _, _, h1, h2⟩ := h
    obtain ⟨fs', cs', hv, g1, g2⟩ := e
    exact ⟨fs', cs', hv, VRels.back hl fs _ _ h1 g1, VRels.back hl cs _ _ h2 g2⟩
  | .nf, _, _, _, e => by simpa [VRel] using e
  | .ni, _, _, _, e => by simpa [VRel] using e
  | .ag cs, _, _, h, e => by
    simp only [VRel] at h e ⊢
    obtain ⟨_, _, _, h1⟩ := h
    obtain ⟨vs, hv, ha, g1⟩ := e
    exact ⟨vs, hv, ha, VRels.back hl cs _ _ h1 g1⟩
  | .tu cs, _, _, h, e => by
    simp only [VRel] at h e ⊢
    obtain ⟨_, _, h1⟩ := h
    obtain ⟨vs, hv, g1⟩ := e
    exact ⟨vs, hv, VRels.back hl cs _ _ h1 g1⟩
theorem VRels.back {β β' : B} (hl : β.le β') : ∀ (xs : List V) (vs us : List Value), VRels ρ β xs vs → VRels ρ β' xs us → VRels ρ β xs us
  | [], _, _, _, e => by simpa [VRels] using e
  | x :: xs, _, _, h, e => by
    simp only [VRels] at h e ⊢
    obtain ⟨_, _, _, h1, h2⟩ := h
    obtain ⟨v, r, hv, g1, g2⟩ := e
    exact ⟨v, r, hv, VRel.back hl x _ _ h1 g1, VRels.back hl xs _ _ h2 g2⟩
end
theorem MRel.back {β β' : B} (hl : β.le β') {es : List (V × V)} {en en' : Array MapEntry} {cl cl' : Nat} (h : MRel ρ β es en cl) (e : MRel ρ β' es en' cl') : MRel ρ β es en' cl' := by
  obtain ⟨⟨_, _, h1, h2⟩, _⟩ := h
  obtain ⟨⟨l, hp, g1, g2⟩, hst⟩ := e
  exact ⟨⟨l, hp, VRels.back hl _ _ _ h1 g1, VRels.back hl _ _ _ h2 g2⟩, hst⟩
/-- blocks made meanwhile are forgotten; one map's block is another -/
theorem forget_new {β β' : B} {h h₁ h' : H} {w w₁ w' : World} (hdom : Dom β h) (g0 : Goes ρ β h w β h₁ w₁) (g : Goes ρ β h₁ w₁ β' h' w') {d : Nat} {es' : List (V × V)} (hne : ∀ d', d' ≠ d → d' < h₁.nx → h'.bl.get d' = h₁.bl.get d') (hd : h'.bl.get d = some (.mp es'))
    (hdb : ∃ y, β d = some y) (hes : ∀ en cl, MRel ρ β' es' en cl → MRel ρ β es' en cl) : Goes ρ β h w β (h₁.put d (some (.mp es'))) w' := by
  have get_d : (h₁.put d (some (.mp es'))).bl.get d = some (.mp es') := T.get_set_same _ _ _ _ (Nat.lt_succ_self _)
  have get_ne : ∀ d', d' ≠ d → (h₁.put d (some (.mp es'))).bl.get d' = h₁.bl.get d' := fun d' hd' => T.get_set_ne _ _ _ _ _ (Ne.symm hd')
  have hget : ∀ d' y, β d' = some y → (h₁.put d (some (.mp es'))).bl.get d' = h'.bl.get d' := by
    intro d' y hy
    by_cases e : d' = d
    · subst e; rw [get_d, hd]
    · rw [get_ne d' e, hne d' e (g0.dom d' y hy)]
  refine g0.trans ⟨.refl β, ⟨?_, ?_, ?_, ?_⟩, fun d' y hy => g0.dom d' y hy, Nat.le_refl _, g.frame, fun _ _ _ _ h1 h2 => by rw [h1] at h2; cases h2⟩ hdom
  · intro d' m o z c hb hc
    rw [hget d' _ hb] at hc
    obtain ⟨mc, el, fr, h1, h2, h3, h4, h5, h6⟩ := g.rel.cells d' m o z c (g.le _ _ hb) hc
    have hdd : d' ≠ d := fun e => by rw [e, hd] at hc; cases hc
    have hc' : h₁.bl.get d' = some (.cells c) := by rw [← hne d' hdd (g0.dom _ _ hb)]; exact hc
    obtain ⟨_, _, _, _, _, _, _, _, k6⟩ := g0.rel.cells d' m o z c hb hc'
    exact ⟨mc, el, fr, h1, h2, h3, h4, h5, VRels.back g.le _ _ _ k6 h6⟩
  · intro d' m o z es hb hc
    rw [hget d' _ hb] at hc
    obtain ⟨en, cl, h1, h2⟩ := g.rel.maps d' m o z es (g.le _ _ hb) hc
    by_cases e : d' = d
    · subst e
      rw [hd] at hc
      cases hc
      exact ⟨en, cl, h1, hes en cl h2⟩
    · have hc' : h₁.bl.get d' = some (.mp es) := by rw [← hne d' e (g0.dom _ _ hb)]; exact hc
      obtain ⟨_, _, _, k2⟩ := g0.rel.maps d' m o z es hb hc'
      exact ⟨en, cl, h1, MRel.back g.le k2 h2⟩
  · intro d₁ d₂ m o z o' z' h1 h2 s1 s2
    rw [hget d₁ _ h1] at s1
    rw [hget d₂ _ h2] at s2
    exact g.rel.inj d₁ d₂ m o z o' z' (g.le _ _ h1) (g.le _ _ h2) s1 s2
  · intro d' m o z hb
    exact g.rel.low d' m o z (g.le _ _ hb)
end Go.Dm
namespace Go.Dm
variable {ρ : Env} {P : Program}

-- THE TEXT OF maps.Copy
def mkO (d : Option Nat) (op : Op) (ty : Nat) (x : String × Array Edge) : Oper := { dst := d, op := op, type := ty, pos := x.1, after := x.2, guard := none }
def copyOps0 (tm : Nat) (x : Nat → String × Array Edge) : Array Oper := #[mkO (some 6) (.move (.tmp 1)) tm (x 0), mkO (some 7) (.range tm (.tmp 6)) 0 (x 1)]
def copyOps1 (tb : Nat) (x : Nat → String × Array Edge) : Array Oper := #[mkO (some 8) (.next (.tmp 7) false) 0 (x 2), mkO (some 9) (.extract (.tmp 8) 0) tb (x 3)]
def copyOps2 (tk te : Nat) (x : Nat → String × Array Edge) : Array Oper := #[mkO (some 10) (.entry (.tmp 7)) 0 (x 4), mkO (some 11) (.extract (.tmp 10) 0) tk (x 5), mkO (some 12) (.extract (.tmp 10) 1) te (x 6),
  mkO (some 4) (.alloc tk) 0 (x 7), mkO (some 5) (.alloc te) 0 (x 8), mkO none (.store tk (.tmp 4) (.tmp 11)) 0 (x 9), mkO none (.store te (.tmp 5) (.tmp 12)) 0 (x 10)]
def copyOps3 (tm tk te : Nat) (x : Nat → String × Array Edge) : Array Oper := #[mkO (some 13) (.move (.tmp 0)) tm (x 11), mkO (some 14) (.load tk (.tmp 4)) tk (x 12), mkO (some 15) (.load te (.tmp 5)) te (x 13), mkO none (.mapUpdate tm (.tmp 13) (.tmp 14) (.tmp 15)) 0 (x 14)]
def copyRound (tm tk te tb : Nat) (x : Nat → String × Array Edge) : Code :=
  .seq (.region 1 (copyOps1 tb x) false) (.seq (.cond (.tmp 9) .skip (.exit 0)) (.block 1 (.seq (.region 2 (copyOps2 tk te x) false) (.region 3 (copyOps3 tm tk te x) false))))
def copyBody (tm tk te tb : Nat) (x : Nat → String × Array Edge) : Code := .seq (.region 0 (copyOps0 tm x) false) (.block 0 (.loop (copyRound tm tk te tb x)))

-- ITS SUMMARY
/-- a row of so many cells? -/
def fits (P : Program) (t : Nat) (v : V) : Bool := match v, tZero P t, tSize P t, tAgg P t with
  | .ag l, .ok z, .ok n, some k => okCells z && Nat.beq (lenN (cellsOfV z) 0) n && Nat.beq (lenN l 0) n && Nat.beq k n
  | _, _, _, _ => false
def addAll (P : Program) (kt et : Nat) : List (V × V) → List (V × V) → R (List (V × V))
  | [], es => .ok es
  | e :: l, es => bif kaOf P kt e.1 && fits P kt e.1 && fits P et e.2 then (newKey P kt e.1 es).bind fun _ => addAll P kt et l (app es [e]) else .err 420
def copyS (P : Program) (tm : Nat) (args : List V) (h : H) : R (V × H) := match args with
  | [.m d, .m s] => bif Nat.beq d s then .err 421 else (tMap P tm).bind fun y => bif keyKd P y.1 then (h.map d).bind fun ed => (h.map s).bind fun es => (addAll P y.1 y.2 es ed).bind fun r => .ok (.tu [], h.put d (some (.mp r))) else .err 422
  | _ => .err 423
structure Fits (P : Program) (t : Nat) (v : V) : Prop where
  ex : ∃ (l : List V) (n : Nat) (i : TypeInfo) (z : Value), v = .ag l ∧ l.length = n ∧ tSize P t = .ok n ∧ tAgg P t = some n ∧ P.info? t = some i ∧ i.zero = some z ∧ z.cells.size = n
theorem fits_ok {t : Nat} {v : V} (e : fits P t v = true) : Fits P t v := by
  unfold fits at e
  split at e
  · rename_i l z n k hz hn hk
    simp only [Bool.and_eq_true] at e
    obtain ⟨⟨⟨e1, e2⟩, e3⟩, e4⟩ := e
    have h2 := Nat.eq_of_beq_eq_true e2
    have h3 := Nat.eq_of_beq_eq_true e3
    have h4 := Nat.eq_of_beq_eq_true e4
    rw [lenN_eq, Nat.add_zero] at h2 h3
    subst h4
    obtain ⟨i, u, hi, hu, hr⟩ := tZero_ok (ρ := ⟨fun _ => 0, fun _ => []⟩) (β := fun _ => none) hz
    have := (cells_of e1 hr).2.length
    simp only [Array.length_toList] at this
    exact ⟨l, _, i, u, rfl, h3, hn, hk, hi, hu, by omega⟩
  · cases e
theorem addAll_ok {kt et : Nat} : ∀ {l es r : List (V × V)}, addAll P kt et l es = .ok r → r = es ++ l ∧ (∀ e ∈ l, kaOf P kt e.1 = true ∧ Fits P kt e.1 ∧ Fits P et e.2 ∧ ∀ e' ∈ es, eqV P kt e.1 e'.1 = .ok false ∧ eqV P kt e'.1 e.1 = .ok false) ∧
    l.Pairwise (fun e e' => eqV P kt e.1 e'.1 = .ok false ∧ eqV P kt e'.1 e.1 = .ok false)
  | [], es, r, e => by cases e; exact ⟨by simp, fun e h => (by cases h), List.Pairwise.nil⟩
  | a :: l, es, r, e => by
    simp only [addAll] at e
    obtain ⟨h1, e⟩ := cond_ok e
    simp only [Bool.and_eq_true] at h1
    obtain ⟨u, hu, e⟩ := R.bind_ok e
    have hnew := newKey_ok hu
    obtain ⟨g1, g2, g3⟩ := addAll_ok e
    rw [app_eq] at g1 g2
    refine ⟨by rw [g1]; simp, fun b hb => ?_, List.Pairwise.cons (fun b hb => ?_) g3⟩
    · rcases List.mem_cons.1 hb with rfl | hb
      · exact ⟨h1.1.1, fits_ok h1.1.2, fits_ok h1.2, fun e' he' => hnew e' he'⟩
      · obtain ⟨k1, k2, k3, k4⟩ := g2 b hb
        exact ⟨k1, k2, k3, fun e' he' => k4 e' (List.mem_append_left _ he')⟩
    · have h2 := (g2 b hb).2.2.2 a (by simp)
      exact ⟨h2.2, h2.1⟩


-- ROWS OF THE CALL'S OWN
theorem run_alloc_own {t : Nat} {i : TypeInfo} {z : Value} (hi : P.info? t = some i) (hz : i.zero = some z) (w : World) :
    (Instr.alloc t true (.tuple #[])).run P w = .ok (.pointer (some ⟨w.heap.size, 0, none⟩)) { w with heap := w.heap.push (.cells z.cells t) } := by
  simp [Instr.alloc, zeroValue, typeInfo, hi, hz, newVar, newRow]
theorem store_own {t m : Nat} {w : World} {mc vs : Array Value} {el : TypeId} (hw : w.heap[m]? = some (.cells mc el (0, 0))) (hsz : mc.size = vs.size) (hn : tSize P t = .ok vs.size) (h1 : ∀ v ∈ vs.toList, v.oneCell' = true) :
    ∃ w', (Instr.storeAt t (.pointer (some ⟨m, 0, none⟩)) (.agg vs)).run P w = .ok () w' ∧ w'.heap[m]? = some (.cells vs el (0, 0)) ∧ (∀ k, k ≠ m → w'.heap[k]? = w.heap[k]?) ∧ w'.heap.size = w.heap.size ∧ w'.os = w.os ∧ w'.output = w.output := by
  have there : ∀ j, j < vs.toList.length → (w.cell? ⟨m, 0 + j, none⟩).isSome = true ∧ w.frozen? ⟨m, 0 + j, none⟩ = false := by
    intro j hj
    simp only [Array.length_toList] at hj
    refine ⟨?_, ?_⟩
    · rw [cell?_of hw, Array.getElem?_eq_getElem (by omega)]; rfl
    · rw [frozen?_of hw]; simp
  have hrun := run_storeCells_cells (P := P) m 0 vs.toList 0 w (fun j hj => by simpa using (there j hj).1) (fun j hj => by simpa using (there j hj).2) h1
  obtain ⟨mc', g1, g2⟩ := setCells_self (m := m) vs.toList 0 w mc hw (by simp; omega)
  have hmc : mc' = vs := by
    apply Array.ext'
    rw [g2, List.take_zero, List.nil_append, List.drop_of_length_le (by simp; omega), List.append_nil]
  subst hmc
  have hne : ¬ ((Value.agg mc').cells.size ≠ mc'.size) := by simp [Value.cells]
  refine ⟨_, ?_, g1, fun k hk => setCells_ne hk _ _ _, setCells_size _ _ _, (setCells_os _ _ _).1, (setCells_os _ _ _).2⟩
  simp only [Instr.storeAt, Instr.sureAddr, storeVar, Sem.run_bind, Sem.run_pure, Result.andThen_ok, run_size hn, hne, if_false]
  simpa [Value.cells] using hrun
theorem load_own {t m : Nat} {w : World} {vs : Array Value} {el : TypeId} {fr : Nat × Nat} (hw : w.heap[m]? = some (.cells vs el fr)) (ha : tAgg P t = some vs.size) :
    (Instr.loadAt t (.pointer (some ⟨m, 0, none⟩))).run P w = .ok (.agg vs) w := by
  obtain ⟨⟨ds, hu, hrow⟩, hi⟩ := tAgg_some ha
  have := run_loadAt_mid (P := P) w m 0 t vs.toList ds (fun j v hv => by rw [cell?_of hw]; simpa using hv) hu hrow (by rw [hi]; simp)
  simpa using this
end Go.Dm
namespace Go.Dm
variable {ρ : Env} {P : Program}

theorem wpOps_cons {ops : Array Oper} {Q : Exit → Go.Act → World → Prop} {i : Nat} {rest : List Nat} {o : Oper} {a : Go.Act} {w : World} (ho : ops[i]? = some o) (hg : o.guard = none) (h : o.wp P a w (wpOps P ops Q rest) Q) : wpOps P ops Q (i :: rest) a w := by
  have hw : Region.wanted o (yielded ops a.tmps) = true := by simp only [Region.wanted, hg]
  simp only [wpOps, ho, hw, if_true]
  exact .inl h
theorem wp_value {o : Oper} {a : Go.Act} {w w' : World} {v : Value} {next : Go.Act → World → Prop} {Q : Exit → Go.Act → World → Prop} (h : (execOp a.eval o).run P w = .ok (.value v) w') (k : next (a.put o.dst v) w') : o.wp P a w next Q := by
  unfold Oper.wp
  rw [h]
  exact k
theorem eval_tmp {a : Go.Act} {i : Nat} {v : Value} (h : a.tmps[i]? = some v) : a.eval (.tmp i) = v := by
  simp only [Go.Act.eval, Array.getD_eq_getD_getElem?, h, Option.getD_some]
theorem put_get_ne {a : Go.Act} {i d : Nat} {v : Value} (h : d ≠ i) : (a.put (some d) v).tmps[i]? = a.tmps[i]? := by
  simp only [Go.Act.put]
  exact Array.getElem?_setIfInBounds_ne h
theorem put_get_self {a : Go.Act} {d : Nat} {v : Value} (h : d < a.tmps.size) : (a.put (some d) v).tmps[d]? = some v := by
  simp only [Go.Act.put]
  exact Array.getElem?_setIfInBounds_self_of_lt h
structure CInv (ρ : Env) (β : B) (h : H) (w : World) (d : Nat) (ed : List (V × V)) (en : Array MapEntry) (cl bs bd r : Nat) (dn : List ((V × V) × MapEntry)) (a : Go.Act) (w1 : World) : Prop where
  goes : Goes ρ β h w β (h.put d (some (.mp (ed ++ dn.map (·.1))))) w1
  src : w1.heap[bs]? = some (.map en cl)
  it : ∃ since seen c0, w1.heap[r]? = some (.mapIter (some bs) since seen c0) ∧ since ≤ c0 ∧ since ≤ cl ∧ (∀ x ∈ en.toList, x.born < since) ∧ ∀ n, n ∈ seen ↔ n ∈ dn.map (·.2.born)
  rlo : w.heap.size ≤ r
  a0 : a.tmps[0]? = some (.map (some bd))
  a7 : a.tmps[7]? = some (.pointer (some ⟨r, 0, none⟩))
  size : a.tmps.size = 16
  defers : a.defers = []
/-- what stands of the entries that are laid -/
structure Laid (ρ : Env) (P : Program) (β : B) (tk te : Nat) (ed : List (V × V)) (en : Array MapEntry) (pairs : List ((V × V) × MapEntry)) : Prop where
  mem : ∀ p ∈ pairs, p.2 ∈ en.toList ∧ VRel ρ β p.1.1 p.2.key ∧ VRel ρ β p.1.2 p.2.val ∧ kaOf P tk p.1.1 = true ∧ Fits P tk p.1.1 ∧ Fits P te p.1.2 ∧ ∀ e' ∈ ed, eqV P tk p.1.1 e'.1 = .ok false
  cov : ∀ e ∈ en.toList, ∃ p ∈ pairs, p.2 = e
  pw : pairs.Pairwise (fun p q => eqV P tk p.1.1 q.1.1 = .ok false ∧ eqV P tk q.1.1 p.1.1 = .ok false)
  born : (en.toList.map (·.born)).Nodup
  apart : (pairs.map (·.2.born)).Nodup
theorem born_one {en : List MapEntry} (h : (en.map (·.born)).Nodup) {e e' : MapEntry} (he : e ∈ en) (he' : e' ∈ en) (hb : e.born = e'.born) : e = e' := by
  induction en with
  | nil => cases he
  | cons a l ih =>
    simp only [List.map_cons, List.nodup_cons] at h
    rcases List.mem_cons.1 he with rfl | he1
    · rcases List.mem_cons.1 he' with rfl | he2
      · rfl
      · exact absurd (hb ▸ List.mem_map.2 ⟨e', he2, rfl⟩) h.1
    · rcases List.mem_cons.1 he' with rfl | he2
      · exact absurd (hb ▸ List.mem_map.2 ⟨e, he1, rfl⟩) h.1
      · exact ih h.2 he1 he2
theorem hrel_out {β : B} {h : H} {w w' : World} (hr : HRel ρ β h w) (hs : w.heap.size ≤ w'.heap.size) (hne : ∀ m, (∃ d o z, β d = some (m, o, z)) → w'.heap[m]? = w.heap[m]?) : HRel ρ β h w' := by
  refine ⟨?_, ?_, hr.inj, fun d m o z hb => Nat.lt_of_lt_of_le (hr.low d m o z hb) hs⟩
  · intro d m o z c hb hc
    obtain ⟨mc, el, fr, h1, hrest⟩ := hr.cells d m o z c hb hc
    exact ⟨mc, el, fr, by rw [hne m ⟨d, o, z, hb⟩]; exact h1, hrest⟩
  · intro d m o z es hb hc
    obtain ⟨en, cl, h1, hrest⟩ := hr.maps d m o z es hb hc
    exact ⟨en, cl, by rw [hne m ⟨d, o, z, hb⟩]; exact h1, hrest⟩
/-- a step beside all that is told -/
theorem goes_beside {β : B} {h h₁ : H} {w w₁ w₂ : World} (g : Goes ρ β h w β h₁ w₁) (_hdom : Dom β h) (hlow : ∀ d m o z, β d = some (m, o, z) → m < w.heap.size) (hs : w₁.heap.size ≤ w₂.heap.size) (hne : ∀ m, m < w.heap.size → w₂.heap[m]? = w₁.heap[m]?) (hos : w₂.os = w₁.os) (hout : w₂.output = w₁.output) : Goes ρ β h w β h₁ w₂ := by
  refine ⟨.refl β, hrel_out g.rel hs fun m ⟨d, o, z, hb⟩ => hne m (hlow d m o z hb), g.dom, g.nx, ⟨Nat.le_trans g.frame.size hs, fun m hm hn => (hne m hm).trans (g.frame.rest m hm hn), hos.trans g.frame.os, hout.trans g.frame.output⟩, g.fresh⟩
theorem wp_skipped {o : Oper} {a : Go.Act} {w w' : World} {next : Go.Act → World → Prop} {Q : Exit → Go.Act → World → Prop} (hd : o.dst = none) (h : (execOp a.eval o).run P w = .ok .skip w') (k : next a w') : o.wp P a w next Q := by
  unfold Oper.wp
  rw [h]
  show next (a.put o.dst undef) w'
  rw [hd]
  exact k
/-- the entry that the step gave is laid into the other map -/
theorem copy_entry {β : B} {h : H} {w : World} {d : Nat} {ed : List (V × V)} {en : Array MapEntry} {cl bs bd r : Nat} {tm tk te : Nat} {x : Nat → String × Array Edge} {pairs dn : List ((V × V) × MapEntry)} {p : (V × V) × MapEntry} {a : Go.Act} {w2 : World} {Q : Exit → Go.Act → World → Prop}
    (hdom : Dom β h) (hlow : ∀ d m o z, β d = some (m, o, z) → m < w.heap.size) {ob zb : Nat} (hbd : β d = some (bd, ob, zb)) (hbs : bs < w.heap.size) (hbs2 : bs ≠ bd)
    (hmap : tMap P tm = .ok (tk, te)) (hkd : keyKd P tk = true) (L : Laid ρ P β tk te ed en pairs) (hp : p ∈ pairs) (_hdn : ∀ q ∈ dn, q ∈ pairs) (hnew : ∀ q ∈ dn, eqV P tk p.1.1 q.1.1 = .ok false)
    (hg : Goes ρ β h w β (h.put d (some (.mp (ed ++ dn.map (·.1))))) w2) (hsrc : w2.heap[bs]? = some (.map en cl)) (hrlo : w.heap.size ≤ r) (hrlt : r < w2.heap.size)
    (hent : (Instr.entry (.pointer (some ⟨r, 0, none⟩))).run P w2 = .ok (.tuple #[p.2.key, p.2.val]) w2)
    (a0 : a.tmps[0]? = some (.map (some bd))) (a7 : a.tmps[7]? = some (.pointer (some ⟨r, 0, none⟩))) (hsz : a.tmps.size = 16)
    (hK : ∀ a' w', Goes ρ β h w β (h.put d (some (.mp (ed ++ (dn ++ [p]).map (·.1))))) w' → w'.heap[bs]? = some (.map en cl) → w'.heap[r]? = w2.heap[r]? → a'.tmps[0]? = some (.map (some bd)) → a'.tmps[7]? = some (.pointer (some ⟨r, 0, none⟩)) → a'.tmps.size = 16 → a'.defers = a.defers → Q .normal a' w') :
    (Code.seq (.region 2 (copyOps2 tk te x) false) (.region 3 (copyOps3 tm tk te x) false)).wp P Q a w2 := by
  obtain ⟨hpe, hk, hv, hka, ⟨lk, nk, ik, zk, hke, hlk, hsk, hak, hik, hzk, hzkn⟩, ⟨lv, nv, iv, zv, hve, hlv, hsv, hav, hiv, hzv, hzvn⟩, hed⟩ := L.mem p hp
  have hk0 := hk
  have hv0 := hv
  rw [hke] at hk
  rw [hve] at hv
  simp only [VRel] at hk hv
  obtain ⟨ks, hkk, hatk, hrk⟩ := hk
  obtain ⟨vs, hvv, hatv, hrv⟩ := hv
  have hksz : ks.size = nk := by have := hrk.length; simp at this; omega
  have hvsz : vs.size = nv := by have := hrv.length; simp at this; omega
  subst hksz
  subst hvsz
  have h1k := oneCell_mem hatk hrk
  have h1v := oneCell_mem hatv hrv
  rw [hkk, hvv] at hent
  -- the worlds
  obtain ⟨m, hm⟩ : ∃ m, m = w2.heap.size := ⟨_, rfl⟩
  have hws := hg.frame.size
  obtain ⟨w3, hw3⟩ : ∃ w3 : World, w3 = { w2 with heap := w2.heap.push (.cells zk.cells tk) } := ⟨_, rfl⟩
  obtain ⟨w4, hw4⟩ : ∃ w4 : World, w4 = { w3 with heap := w3.heap.push (.cells zv.cells te) } := ⟨_, rfl⟩
  have s3 : w3.heap.size = m + 1 := by rw [hw3, hm]; simp
  have s4 : w4.heap.size = m + 2 := by rw [hw4]; simp [s3]
  have lt3 : ∀ k, k < m → w3.heap[k]? = w2.heap[k]? := fun k hk => by rw [hw3]; simp only; rw [Array.getElem?_push_lt (by omega), Array.getElem?_eq_getElem (by omega)]
  have c3 : w3.heap[m]? = some (.cells zk.cells tk (0, 0)) := by rw [hw3, hm]; simp
  have lt4 : ∀ k, k < m + 1 → w4.heap[k]? = w3.heap[k]? := fun k hk => by rw [hw4]; simp only; rw [Array.getElem?_push_lt (by omega), Array.getElem?_eq_getElem (by omega)]
  have c4 : w4.heap[m + 1]? = some (.cells zv.cells te (0, 0)) := by rw [hw4, ← s3]; simp
  have hal3 : (Instr.alloc tk true (.tuple #[])).run P w2 = .ok (.pointer (some ⟨m, 0, none⟩)) w3 := by rw [hm, hw3]; exact run_alloc_own hik hzk w2
  have hal4 : (Instr.alloc te true (.tuple #[])).run P w3 = .ok (.pointer (some ⟨m + 1, 0, none⟩)) w4 := by rw [← s3, hw4]; exact run_alloc_own hiv hzv w3
  obtain ⟨w5, st5, g5, n5, s5, o5, u5⟩ := store_own (P := P) (t := tk) (m := m) (w := w4) (mc := zk.cells) (vs := ks) (el := tk) ((lt4 m (by omega)).trans c3) hzkn hsk h1k
  obtain ⟨w6, st6, g6, n6, s6, o6, u6⟩ := store_own (P := P) (t := te) (m := m + 1) (w := w5) (mc := zv.cells) (vs := vs) (el := te) ((n5 (m + 1) (by omega)).trans c4) hzvn hsv h1v
  have hld1 := load_own (P := P) (t := tk) (m := m) (w := w6) (vs := ks) ((n6 m (by omega)).trans g5) hak
  have hld2 := load_own (P := P) (t := te) (m := m + 1) (w := w6) (vs := vs) g6 hav
  have old : ∀ k, k < m → w6.heap[k]? = w2.heap[k]? := fun k hk => by
    rw [n6 k (by omega), n5 k (by omega), lt4 k (by omega), lt3 k hk]
  have hsz6 : w6.heap.size = m + 2 := by rw [s6, s5, s4]
  have hos6 : w6.os = w2.os := by rw [o6, o5, hw4, hw3]
  have hout6 : w6.output = w2.output := by rw [u6, u5, hw4, hw3]
  have hg6 := goes_beside (w₂ := w6) hg hdom hlow (by omega) (fun k hk => old k (by omega)) hos6 hout6
  -- the map
  have hcur : (h.put d (some (.mp (ed ++ dn.map (·.1))))).bl.get d = some (.mp (ed ++ dn.map (·.1))) := T.get_set_same _ _ _ _ (Nat.lt_succ_self _)
  obtain ⟨en', cl', hw', hmr⟩ := hg6.rel.maps d bd ob zb _ hbd hcur
  have hput := put_new (P := P) (w := w6) (vv := p.2.val) hmap hkd hka hk0 hmr (fun e he => by
    rcases List.mem_append.1 he with he | he
    · exact hed e he
    · obtain ⟨q, hq, rfl⟩ := List.mem_map.1 he
      exact hnew q hq) hw'
  rw [hkk, hvv] at hput
  have hbdlt := hlow d bd ob zb hbd
  have hk1 : VRel ρ β p.1.1 (.agg ks) := by rw [← hkk]; exact hk0
  have hv1 : VRel ρ β p.1.2 (.agg vs) := by rw [← hvv]; exact hv0
  have hmr' : MRel ρ β ((ed ++ dn.map (·.1)) ++ [p.1]) (en'.push { key := .agg ks, val := .agg vs, born := cl' }) (cl' + 1) := by
    obtain ⟨⟨l, hpm, h1, h2⟩, hst⟩ := hmr
    refine ⟨⟨l ++ [{ key := .agg ks, val := .agg vs, born := cl' }], ?_, ?_, ?_⟩, hst.push _ _⟩
    · rw [Array.toList_push]
      exact List.Perm.append_right _ hpm
    · simpa [List.map_append] using h1.append (VRels.one hk1)
    · simpa [List.map_append] using h2.append (VRels.one hv1)
  obtain ⟨_, hgm⟩ := goes_map (P := P) (clock' := cl' + 1) hg6.rel hg6.dom hbd hcur hw' hmr'
  obtain ⟨w7, hw7⟩ : ∃ w7 : World, w7 = { w6 with heap := w6.heap.setIfInBounds bd (.map (en'.push { key := .agg ks, val := .agg vs, born := cl' }) (cl' + 1)) } := ⟨_, rfl⟩
  rw [← hw7] at hput hgm
  have hne7 : ∀ k, k ≠ bd → w7.heap[k]? = w6.heap[k]? := fun k hk => by rw [hw7]; simp only; rw [Array.getElem?_setIfInBounds_ne (Ne.symm hk)]
  have hg7 : Goes ρ β h w β (h.put d (some (.mp (ed ++ (dn ++ [p]).map (·.1))))) w7 := by
    have e := hg6.trans hgm hdom
    have hh : (h.put d (some (.mp (ed ++ dn.map (·.1))))).put d (some (.mp ((ed ++ dn.map (·.1)) ++ [p.1]))) = (h.put d (some (.mp (ed ++ dn.map (·.1))))).put d (some (.mp (ed ++ (dn ++ [p]).map (·.1)))) := by
      rw [List.map_append, List.append_assoc]; rfl
    rw [hh] at e
    refine ⟨e.le, ⟨?_, ?_, ?_, e.rel.low⟩, e.dom, e.nx, e.frame, e.fresh⟩
    all_goals
      have gg : ∀ d', (h.put d (some (.mp (ed ++ (dn ++ [p]).map (·.1))))).bl.get d' = ((h.put d (some (.mp (ed ++ dn.map (·.1))))).put d (some (.mp (ed ++ (dn ++ [p]).map (·.1))))).bl.get d' := by
        intro d'
        simp only [H.put]
        by_cases hdd : d = d'
        · subst hdd
          rw [T.get_set_same _ _ _ _ (Nat.lt_succ_self _), T.get_set_same _ _ _ _ (Nat.lt_succ_self _)]
        · rw [T.get_set_ne _ _ _ _ _ hdd, T.get_set_ne _ _ _ _ _ hdd, T.get_set_ne _ _ _ _ _ hdd]
    · intro d' m' o' z' c hb hc
      rw [gg] at hc
      exact e.rel.cells d' m' o' z' c hb hc
    · intro d' m' o' z' c hb hc
      rw [gg] at hc
      exact e.rel.maps d' m' o' z' c hb hc
    · intro d₁ d₂ m' o' z' o'' z'' hb hb' s1 s2
      rw [gg] at s1 s2
      exact e.rel.inj d₁ d₂ m' o' z' o'' z'' hb hb' s1 s2
  -- the walk
  refine wp_seq (wp_region ?_)
  show wpOps P (copyOps2 tk te x) _ [0, 1, 2, 3, 4, 5, 6] a w2
  refine wpOps_cons (o := mkO (some 10) (.entry (.tmp 7)) 0 (x 4)) rfl rfl (wp_value (v := .tuple #[.agg ks, .agg vs]) (w' := w2) ?_ ?_)
  · simp only [execOp, mkO, Sem.run_bind, eval_tmp a7, hent, Result.andThen_ok, Sem.run_pure]
  have b10 := put_get_self (a := a) (d := 10) (v := .tuple #[.agg ks, .agg vs]) (by omega)
  refine wpOps_cons (o := mkO (some 11) (.extract (.tmp 10) 0) tk (x 5)) rfl rfl (wp_value (v := .agg ks) (w' := w2) ?_ ?_)
  · simp only [execOp, mkO, Sem.run_bind, eval_tmp b10, Instr.extract, List.getElem?_toArray, List.getElem?_cons_zero, Result.andThen_ok, Sem.run_pure]
  have b10' : ((a.put (some 10) (.tuple #[.agg ks, .agg vs])).put (some 11) (.agg ks)).tmps[10]? = some (.tuple #[.agg ks, .agg vs]) := (put_get_ne (by omega)).trans b10
  refine wpOps_cons (o := mkO (some 12) (.extract (.tmp 10) 1) te (x 6)) rfl rfl (wp_value (v := .agg vs) (w' := w2) ?_ ?_)
  · simp only [execOp, mkO, Sem.run_bind, eval_tmp b10', Instr.extract, List.getElem?_toArray, List.getElem?_cons_succ, List.getElem?_cons_zero, Result.andThen_ok, Sem.run_pure]
  refine wpOps_cons (o := mkO (some 4) (.alloc tk) 0 (x 7)) rfl rfl (wp_value (v := .pointer (some ⟨m, 0, none⟩)) (w' := w3) ?_ ?_)
  · simp only [execOp, mkO, Sem.run_bind, hal3, Result.andThen_ok, Sem.run_pure]
  refine wpOps_cons (o := mkO (some 5) (.alloc te) 0 (x 8)) rfl rfl (wp_value (v := .pointer (some ⟨m + 1, 0, none⟩)) (w' := w4) ?_ ?_)
  · simp only [execOp, mkO, Sem.run_bind, hal4, Result.andThen_ok, Sem.run_pure]
  obtain ⟨a3, ha3⟩ : ∃ a3, a3 = (((((a.put (some 10) (.tuple #[.agg ks, .agg vs])).put (some 11) (.agg ks)).put (some 12) (.agg vs)).put (some 4) (.pointer (some ⟨m, 0, none⟩))).put (some 5) (.pointer (some ⟨m + 1, 0, none⟩))) := ⟨_, rfl⟩
  have hb0 : a3.tmps[0]? = some (.map (some bd)) := by
    rw [ha3, put_get_ne (by omega), put_get_ne (by omega), put_get_ne (by omega), put_get_ne (by omega), put_get_ne (by omega)]; exact a0
  have hb7 : a3.tmps[7]? = some (.pointer (some ⟨r, 0, none⟩)) := by
    rw [ha3, put_get_ne (by omega), put_get_ne (by omega), put_get_ne (by omega), put_get_ne (by omega), put_get_ne (by omega)]; exact a7
  have hb4 : a3.tmps[4]? = some (.pointer (some ⟨m, 0, none⟩)) := by
    rw [ha3, put_get_ne (by omega)]
    exact put_get_self (by simp only [put_size]; omega)
  have hb5 : a3.tmps[5]? = some (.pointer (some ⟨m + 1, 0, none⟩)) := by
    rw [ha3]
    exact put_get_self (by simp only [put_size]; omega)
  have hb11 : a3.tmps[11]? = some (.agg ks) := by
    rw [ha3, put_get_ne (by omega), put_get_ne (by omega), put_get_ne (by omega)]
    exact put_get_self (by simp only [put_size]; omega)
  have hb12 : a3.tmps[12]? = some (.agg vs) := by
    rw [ha3, put_get_ne (by omega), put_get_ne (by omega)]
    exact put_get_self (by simp only [put_size]; omega)
  have hs3 : a3.tmps.size = 16 := by rw [ha3]; simp only [put_size]; exact hsz
  have hd3 : a3.defers = a.defers := by rw [ha3]; simp only [put_defers]
  show wpOps P (copyOps2 tk te x) _ [5, 6] (((((a.put (some 10) (.tuple #[.agg ks, .agg vs])).put (some 11) (.agg ks)).put (some 12) (.agg vs)).put (some 4) (.pointer (some ⟨m, 0, none⟩))).put (some 5) (.pointer (some ⟨m + 1, 0, none⟩))) w4
  rw [← ha3]
  clear ha3
  refine wpOps_cons (o := mkO none (.store tk (.tmp 4) (.tmp 11)) 0 (x 9)) rfl rfl (wp_skipped rfl (w' := w5) ?_ ?_)
  · simp only [execOp, mkO, Sem.run_bind, eval_tmp hb4, eval_tmp hb11, st5, Result.andThen_ok, Sem.run_pure]
  refine wpOps_cons (o := mkO none (.store te (.tmp 5) (.tmp 12)) 0 (x 10)) rfl rfl (wp_skipped rfl (w' := w6) ?_ ?_)
  · simp only [execOp, mkO, Sem.run_bind, eval_tmp hb5, eval_tmp hb12, st6, Result.andThen_ok, Sem.run_pure]
  show (Code.region 3 (copyOps3 tm tk te x) false).wp P Q a3 w6
  refine wp_region ?_
  show wpOps P (copyOps3 tm tk te x) _ [0, 1, 2, 3] a3 w6
  refine wpOps_cons (o := mkO (some 13) (.move (.tmp 0)) tm (x 11)) rfl rfl (wp_value (v := .map (some bd)) (w' := w6) ?_ ?_)
  · simp only [execOp, mkO, eval_tmp hb0, Sem.run_pure]
  have b4' : (a3.put (some 13) (.map (some bd))).tmps[4]? = some (.pointer (some ⟨m, 0, none⟩)) := (put_get_ne (by omega)).trans hb4
  have b5' : ((a3.put (some 13) (.map (some bd))).put (some 14) (.agg ks)).tmps[5]? = some (.pointer (some ⟨m + 1, 0, none⟩)) := (put_get_ne (by omega)).trans ((put_get_ne (by omega)).trans hb5)
  refine wpOps_cons (o := mkO (some 14) (.load tk (.tmp 4)) tk (x 12)) rfl rfl (wp_value (v := .agg ks) (w' := w6) ?_ ?_)
  · simp only [execOp, mkO, Sem.run_bind, eval_tmp b4', hld1, Result.andThen_ok, Sem.run_pure]
  refine wpOps_cons (o := mkO (some 15) (.load te (.tmp 5)) te (x 13)) rfl rfl (wp_value (v := .agg vs) (w' := w6) ?_ ?_)
  · simp only [execOp, mkO, Sem.run_bind, eval_tmp b5', hld2, Result.andThen_ok, Sem.run_pure]
  have e13 : (((a3.put (some 13) (.map (some bd))).put (some 14) (.agg ks)).put (some 15) (.agg vs)).tmps[13]? = some (.map (some bd)) := by
    rw [put_get_ne (by omega), put_get_ne (by omega)]
    exact put_get_self (by omega)
  have e14 : (((a3.put (some 13) (.map (some bd))).put (some 14) (.agg ks)).put (some 15) (.agg vs)).tmps[14]? = some (.agg ks) := by
    rw [put_get_ne (by omega)]
    exact put_get_self (by simp only [put_size]; omega)
  have e15 : (((a3.put (some 13) (.map (some bd))).put (some 14) (.agg ks)).put (some 15) (.agg vs)).tmps[15]? = some (.agg vs) := put_get_self (by simp only [put_size]; omega)
  refine wpOps_cons (o := mkO none (.mapUpdate tm (.tmp 13) (.tmp 14) (.tmp 15)) 0 (x 14)) rfl rfl (wp_skipped rfl (w' := w7) ?_ ?_)
  · simp only [mkO] at e13 e14 e15 ⊢
    simp only [execOp, Sem.run_bind, eval_tmp e13, eval_tmp e14, eval_tmp e15, hput, Result.andThen_ok, Sem.run_pure]
  refine hK _ w7 hg7 ?_ ?_ ?_ ?_ ?_ ?_
  · rw [hne7 bs hbs2, old bs (by omega)]; exact hsrc
  · rw [hne7 r (by omega), old r (by omega)]
  · simp only [mkO]; rw [put_get_ne (by omega), put_get_ne (by omega), put_get_ne (by omega)]; exact hb0
  · simp only [mkO]; rw [put_get_ne (by omega), put_get_ne (by omega), put_get_ne (by omega)]; exact hb7
  · simp only [put_size]; exact hs3
  · simp only [put_defers]; exact hd3
theorem leftOf_mem {en : Array MapEntry} {seen : Array Nat} {e : MapEntry} : e ∈ (leftOf en seen).toList ↔ e ∈ en.toList ∧ e.born ∉ seen := by
  simp [leftOf]
theorem copy_rounds {β : B} {h : H} {w : World} {d : Nat} {ed : List (V × V)} {en : Array MapEntry} {cl bs bd r : Nat} {tm tk te tb : Nat} {x : Nat → String × Array Edge} {pairs : List ((V × V) × MapEntry)} {Q : Exit → Go.Act → World → Prop}
    (hdom : Dom β h) (hlow : ∀ d m o z, β d = some (m, o, z) → m < w.heap.size) {ob zb : Nat} (hbd : β d = some (bd, ob, zb)) (hbs : bs < w.heap.size) (hbs2 : bs ≠ bd)
    (hmap : tMap P tm = .ok (tk, te)) (hkd : keyKd P tk = true) (L : Laid ρ P β tk te ed en pairs)
    (hQ : ∀ dn a' w', dn.Perm pairs → CInv ρ β h w d ed en cl bs bd r dn a' w' → Q (.exit 0) a' w') : ∀ (n : Nat) (todo dn : List ((V × V) × MapEntry)), todo.length = n → (dn ++ todo).Perm pairs → ∀ (a : Go.Act) (w1 : World), CInv ρ β h w d ed en cl bs bd r dn a w1 → Rounds P (copyRound tm tk te tb x) Q a w1 := by
  intro n
  induction n with
  | zero =>
    intro todo dn hlen hperm a w1 I
    have : todo = [] := List.length_eq_zero_iff.1 hlen
    subst this
    rw [List.append_nil] at hperm
    obtain ⟨since, seen, c0, hr, hsc, hscl, hold, hseen⟩ := I.it
    refine rounds_step (wp_seq (wp_region ?_))
    show wpOps P (copyOps1 tb x) _ [0, 1] a w1
    rcases run_next_at (P := P) w1 0 r bs since c0 seen en cl hr I.src hold hsc with ⟨h0, hrun⟩ | ⟨e, he, _⟩
    · refine wpOps_cons (o := mkO (some 8) (.next (.tmp 7) false) 0 (x 2)) rfl rfl (wp_value (v := .tuple #[.bool false]) (w' := w1) ?_ ?_)
      · simp only [execOp, mkO, Sem.run_bind, eval_tmp I.a7, hrun, Result.andThen_ok, Sem.run_pure]
      have b8 := put_get_self (a := a) (d := 8) (v := .tuple #[.bool false]) (by rw [I.size]; omega)
      refine wpOps_cons (o := mkO (some 9) (.extract (.tmp 8) 0) tb (x 3)) rfl rfl (wp_value (v := .bool false) (w' := w1) ?_ ?_)
      · simp only [mkO] at b8 ⊢
        simp only [execOp, Sem.run_bind, eval_tmp b8, Instr.extract, List.getElem?_toArray, List.getElem?_cons_zero, Result.andThen_ok, Sem.run_pure]
      show (Code.seq _ _).wp P _ ((a.put (some 8) (.tuple #[.bool false])).put (some 9) (.bool false)) w1
      have b9 : ((a.put (some 8) (.tuple #[.bool false])).put (some 9) (.bool false)).tmps[9]? = some (.bool false) := put_get_self (by rw [put_size, I.size]; omega)
      refine wp_seq (wp_cond_false (eval_tmp b9) (wp_exit ?_))
      refine hQ dn _ w1 hperm ⟨I.goes, I.src, I.it, I.rlo, ?_, ?_, by simp only [put_size]; exact I.size, by simp only [put_defers]; exact I.defers⟩
      · rw [put_get_ne (by omega), put_get_ne (by omega)]; exact I.a0
      · rw [put_get_ne (by omega), put_get_ne (by omega)]; exact I.a7
    · exfalso
      obtain ⟨h1, h2⟩ := leftOf_mem.1 he
      obtain ⟨p, hp, rfl⟩ := L.cov e h1
      exact h2 ((hseen _).2 (List.mem_map.2 ⟨p, hperm.mem_iff.2 hp, rfl⟩))
  | succ n ih =>
    intro todo dn hlen hperm a w1 I
    obtain ⟨since, seen, c0, hr, hsc, hscl, hold, hseen⟩ := I.it
    refine rounds_step (wp_seq (wp_region ?_))
    show wpOps P (copyOps1 tb x) _ [0, 1] a w1
    have hap := (hperm.map (·.2.born)).nodup_iff.2 L.apart
    rw [List.map_append, List.nodup_append] at hap
    rcases run_next_at (P := P) w1 0 r bs since c0 seen en cl hr I.src hold hsc with ⟨h0, _⟩ | ⟨e, he, w1', hw1', hrun⟩
    · exfalso
      cases todo with
      | nil => simp at hlen
      | cons p todo =>
        have hp := hperm.mem_iff.1 (show p ∈ dn ++ p :: todo by simp)
        have : p.2 ∈ (leftOf en seen).toList := leftOf_mem.2 ⟨(L.mem p hp).1, fun hs => by
          exact hap.2.2 _ ((hseen _).1 hs) p.2.born (by simp) rfl⟩
        rw [Array.eq_empty_of_size_eq_zero h0] at this
        simp at this
    · obtain ⟨h1, h2⟩ := leftOf_mem.1 he
      obtain ⟨p, hp, rfl⟩ := L.cov e h1
      have hpt : p ∈ todo := by
        rcases List.mem_append.1 (hperm.mem_iff.2 hp) with h | h
        · exact absurd ((hseen _).2 (List.mem_map.2 ⟨p, h, rfl⟩)) h2
        · exact h
      obtain ⟨t1, t2, rfl⟩ := List.append_of_mem hpt
      have hperm' : ((dn ++ [p]) ++ (t1 ++ t2)).Perm pairs := by
        refine List.Perm.trans ?_ hperm
        rw [List.append_assoc]
        exact List.Perm.append_left _ (by simpa using (List.perm_middle (a := p) (l₁ := t1) (l₂ := t2)).symm)
      have hlen' : (t1 ++ t2).length = n := by simp at hlen ⊢; omega
      have hpw := (hperm.pairwise_iff (fun {_ _} h => ⟨h.2, h.1⟩)).2 L.pw
      rw [List.pairwise_append] at hpw
      obtain ⟨w2, hw2⟩ : ∃ w2 : World, w2 = ChangeMaps.setBlock w1' r (.mapIter (some bs) since (seen.push p.2.born) cl) := ⟨_, rfl⟩
      rw [← hw2] at hrun
      have hheap : w1'.heap = w1.heap := by rcases hw1' with rfl | rfl <;> rfl
      have hos1 : w1'.os = w1.os := by rcases hw1' with rfl | rfl <;> rfl
      have hout1 : w1'.output = w1.output := by rcases hw1' with rfl | rfl <;> rfl
      have hrlt : r < w1.heap.size := (Array.getElem?_eq_some_iff.1 hr).1
      have h2sz : w2.heap.size = w1.heap.size := by rw [hw2, ChangeMaps.setBlock]; simp [hheap]
      have h2r : w2.heap[r]? = some (.mapIter (some bs) since (seen.push p.2.born) cl) := by rw [hw2, ChangeMaps.setBlock, hheap]; simp [hrlt]
      have h2n : ∀ k, k ≠ r → w2.heap[k]? = w1.heap[k]? := fun k hk => by rw [hw2, ChangeMaps.setBlock, hheap]; simp only; rw [Array.getElem?_setIfInBounds_ne (Ne.symm hk)]
      have hrlo := I.rlo
      have hg2 := goes_beside (w₂ := w2) I.goes hdom hlow (by omega) (fun k hk => h2n k (by omega)) (by rw [hw2, ChangeMaps.setBlock]; exact hos1) (by rw [hw2, ChangeMaps.setBlock]; exact hout1)
      have h2s : w2.heap[bs]? = some (.map en cl) := by rw [h2n bs (by omega)]; exact I.src
      have hent := run_entry_at (P := P) w2 r bs since seen en cl p.2 h2r h2s h1 L.born
      refine wpOps_cons (o := mkO (some 8) (.next (.tmp 7) false) 0 (x 2)) rfl rfl (wp_value (v := .tuple #[.bool true, p.2.key, p.2.val]) (w' := w2) ?_ ?_)
      · simp only [execOp, mkO, Sem.run_bind, eval_tmp I.a7, hrun, Result.andThen_ok, Sem.run_pure]
      have b8 := put_get_self (a := a) (d := 8) (v := .tuple #[.bool true, p.2.key, p.2.val]) (by rw [I.size]; omega)
      refine wpOps_cons (o := mkO (some 9) (.extract (.tmp 8) 0) tb (x 3)) rfl rfl (wp_value (v := .bool true) (w' := w2) ?_ ?_)
      · simp only [mkO] at b8 ⊢
        simp only [execOp, Sem.run_bind, eval_tmp b8, Instr.extract, List.getElem?_toArray, List.getElem?_cons_zero, Result.andThen_ok, Sem.run_pure]
      show (Code.seq _ _).wp P _ ((a.put (some 8) (.tuple #[.bool true, p.2.key, p.2.val])).put (some 9) (.bool true)) w2
      have b9 : ((a.put (some 8) (.tuple #[.bool true, p.2.key, p.2.val])).put (some 9) (.bool true)).tmps[9]? = some (.bool true) := put_get_self (by rw [put_size, I.size]; omega)
      refine wp_seq (wp_cond_true (eval_tmp b9) (wp_skip ?_))
      refine wp_block (copy_entry (pairs := pairs) (dn := dn) (p := p) (en := en) (cl := cl) (bs := bs) (r := r) hdom hlow hbd hbs hbs2 hmap hkd L hp (fun q hq => hperm.mem_iff.1 (List.mem_append_left _ hq)) (fun q hq => (hpw.2.2 q hq p (by simp)).2) hg2 h2s hrlo (by omega) hent ?_ ?_ (by simp only [put_size]; exact I.size) ?_)
      · rw [put_get_ne (by omega), put_get_ne (by omega)]; exact I.a0
      · rw [put_get_ne (by omega), put_get_ne (by omega)]; exact I.a7
      · intro a' w' k1 k2 k3 k4 k5 k6 k7
        refine ih (t1 ++ t2) (dn ++ [p]) hlen' hperm' a' w' ⟨k1, k2, ⟨since, seen.push p.2.born, cl, k3.trans h2r, hscl, hscl, hold, ?_⟩, hrlo, k4, k5, k6, by rw [k7]; simp only [put_defers]; exact I.defers⟩
        · intro n
          rw [Array.mem_push, hseen, List.map_append, List.mem_append]
          simp
/-- one map's entries in another order -/
theorem MRel.order {β : B} {es es' : List (V × V)} {en : Array MapEntry} {cl : Nat} (h : es.Perm es') (m : MRel ρ β es en cl) : MRel ρ β es' en cl := by
  obtain ⟨⟨l, hp, h1, h2⟩, hst⟩ := m
  have hlen : l.length = es.length := by have := h1.length; simpa using this.symm
  have al : Al (fun (e : V × V) (c : MapEntry) => VRel ρ β e.1 c.key ∧ VRel ρ β e.2 c.val) es l := by
    clear hp h
    induction es generalizing l with
    | nil => simp at hlen; exact hlen
    | cons e es ih =>
      cases l with
      | nil => simp at hlen
      | cons c l =>
        simp only [List.map_cons, VRels] at h1 h2
        obtain ⟨_, _, e1, g1, g2⟩ := h1
        obtain ⟨_, _, e2, g3, g4⟩ := h2
        cases e1
        cases e2
        exact ⟨c, l, rfl, ⟨g1, g3⟩, ih l g2 g4 (by simpa using hlen)⟩
  obtain ⟨l', hp', al'⟩ := Al.perm h al
  have hr : ∀ {es : List (V × V)} {l : List MapEntry}, Al (fun (e : V × V) (c : MapEntry) => VRel ρ β e.1 c.key ∧ VRel ρ β e.2 c.val) es l → VRels ρ β (es.map (·.1)) (l.map (·.key)) ∧ VRels ρ β (es.map (·.2)) (l.map (·.val)) := by
    intro es
    induction es with
    | nil => intro l h; have h : l = [] := h; subst h; simp [VRels]
    | cons e es ih =>
      intro l h
      obtain ⟨c, cs, rfl, h1, h2⟩ := h
      obtain ⟨i1, i2⟩ := ih h2
      simp only [List.map_cons, VRels]
      exact ⟨⟨_, _, rfl, h1.1, i1⟩, ⟨_, _, rfl, h1.2, i2⟩⟩
  exact ⟨⟨l', hp'.symm.trans hp, hr al'⟩, hst⟩
theorem zip_mem {α γ : Type} {R : α → γ → Prop} : ∀ {as : List α} {cs : List γ}, Al R as cs → (∀ p ∈ as.zip cs, R p.1 p.2) ∧ (as.zip cs).map (·.1) = as ∧ (as.zip cs).map (·.2) = cs
  | [], cs, h => by have h : cs = [] := h; subst h; simp
  | a :: as, _, h => by
    obtain ⟨c, cs, rfl, h1, h2⟩ := h
    obtain ⟨g1, g2, g3⟩ := zip_mem h2
    refine ⟨fun p hp => ?_, by simp [g2], by simp [g3]⟩
    rw [List.zip_cons_cons] at hp
    rcases List.mem_cons.1 hp with rfl | hp
    · exact h1
    · exact g1 p hp
theorem MRel.al {β : B} {es : List (V × V)} {l : List MapEntry} (h1 : VRels ρ β (es.map (·.1)) (l.map (·.key))) (h2 : VRels ρ β (es.map (·.2)) (l.map (·.val))) : Al (fun (e : V × V) (c : MapEntry) => VRel ρ β e.1 c.key ∧ VRel ρ β e.2 c.val) es l := by
  induction es generalizing l with
  | nil =>
    have := h1.length
    simp at this
    exact List.length_eq_zero_iff.1 this.symm
  | cons e es ih =>
    cases l with
    | nil => have := h1.length; simp at this
    | cons c l =>
      simp only [List.map_cons, VRels] at h1 h2
      obtain ⟨_, _, e1, g1, g2⟩ := h1
      obtain ⟨_, _, e2, g3, g4⟩ := h2
      cases e1
      cases e2
      exact ⟨c, l, rfl, ⟨g1, g3⟩, ih g2 g4⟩
theorem copy_ok {f tm tk te tb : Nat} {fn : Func} {x : Nat → String × Array Edge} (hf : P.funcs[f]? = some fn) (hb : fn.body = some (copyBody tm tk te tb x)) (hn : fn.ntmps = 16) (hname : (fn.name == "runtime.NumGoroutine") = false) (hres : fn.results = #[]) (hmap : tMap P tm = .ok (tk, te)) :
    CallOk ρ P fun g args h => if g = f then copyS P tm args h else .err 0 := by
  intro g args h y h' e
  by_cases hg : g = f
  · subst hg
    simp only [if_true] at e
    unfold copyS at e
    split at e
    · rename_i d s
      have hds : Nat.beq d s = false := by
        cases hh : Nat.beq d s with
        | true => rw [hh] at e; cases e
        | false => rfl
      rw [hds] at e
      simp only [cond_false, hmap, R.bind] at e
      obtain ⟨hkd, e⟩ := cond_ok e
      obtain ⟨ed, hed, e⟩ := R.bind_ok e
      obtain ⟨es, hes, e⟩ := R.bind_ok e
      obtain ⟨r', hr', e⟩ := R.bind_ok e
      cases e
      obtain ⟨rfl, hall, hpw⟩ := addAll_ok hr'
      refine ⟨⟨fn, hf, hname, by rw [hb]; rfl⟩, fun β w args' hrel hdom hargs => ?_⟩
      simp only [VRels] at hargs
      obtain ⟨v1, r1, e1, hv1, v2, r2, e2, hv2, rfl⟩ := hargs
      obtain ⟨bd, ob, zb, hbd, rfl⟩ := vrel_m hv1
      obtain ⟨bs, os, zs, hbs, rfl⟩ := vrel_m hv2
      subst e2
      have hae : args' = #[.map (some bd), .map (some bs)] := by apply Array.ext'; rw [e1]
      subst hae
      have hne : d ≠ s := Nat.ne_of_beq_eq_false hds
      have hbne : bs ≠ bd := by
        rintro rfl
        exact hne (hrel.inj d s _ _ _ _ _ hbd hbs (by rw [map_ok hed]; rfl) (by rw [map_ok hes]; rfl))
      obtain ⟨end_, cld, hwd, hmd⟩ := hrel.maps _ _ _ _ _ hbd (map_ok hed)
      obtain ⟨en, cl, hws, hms⟩ := hrel.maps _ _ _ _ _ hbs (map_ok hes)
      obtain ⟨⟨l, hpl, hl1, hl2⟩, hst⟩ := hms
      have al := MRel.al hl1 hl2
      obtain ⟨z1, z2, z3⟩ := zip_mem al
      have hpos := hrel.low
      have hbslt := hrel.low _ _ _ _ hbs
      have L : Laid ρ P β tk te ed en (es.zip l) := by
        refine ⟨fun p hp => ?_, fun e he => ?_, ?_, hst.apart, ?_⟩
        · have hp1 : p.1 ∈ es := by rw [← z2]; exact List.mem_map.2 ⟨p, hp, rfl⟩
          have hp2 : p.2 ∈ l := by rw [← z3]; exact List.mem_map.2 ⟨p, hp, rfl⟩
          obtain ⟨k1, k2⟩ := z1 p hp
          obtain ⟨j1, j2, j3, j4⟩ := hall p.1 hp1
          exact ⟨hpl.mem_iff.1 hp2, k1, k2, j1, j2, j3, fun e' he' => (j4 e' he').1⟩
        · have := hpl.mem_iff.2 he
          rw [← z3] at this
          obtain ⟨p, hp, rfl⟩ := List.mem_map.1 this
          exact ⟨p, hp, rfl⟩
        · have : ((es.zip l).map (·.1)).Pairwise (fun e e' => eqV P tk e.1 e'.1 = .ok false ∧ eqV P tk e'.1 e.1 = .ok false) := by rw [z2]; exact hpw
          rw [List.pairwise_map] at this
          exact this
        · have : (es.zip l).map (·.2.born) = l.map (·.born) := by
            conv => rhs; rw [← z3]
            rw [List.map_map]
            rfl
          rw [this]
          exact (hpl.map (·.born)).nodup_iff.2 hst.apart
      refine calls_of_wp hf hb ?_
      rw [hn]
      refine wp_seq (wp_region ?_)
      show wpOps P (copyOps0 tm x) _ [0, 1] _ w
      obtain ⟨a, ha⟩ : ∃ a : Go.Act, a = { tmps := #[Value.map (some bd), .map (some bs)] ++ Array.replicate (16 - (#[Value.map (some bd), .map (some bs)] : Array Value).size) undef, defers := [] } := ⟨_, rfl⟩
      have hsz : a.tmps.size = 16 := by rw [ha]; simp
      have h0 : a.tmps[0]? = some (.map (some bd)) := by
        rw [ha]
        show (#[Value.map (some bd), .map (some bs)] ++ Array.replicate _ _)[0]? = _
        rw [Array.getElem?_append_left (by simp)]
        simp
      have h1 : a.tmps[1]? = some (.map (some bs)) := by
        rw [ha]
        show (#[Value.map (some bd), .map (some bs)] ++ Array.replicate _ _)[1]? = _
        rw [Array.getElem?_append_left (by simp)]
        simp
      have hdf : a.defers = [] := by rw [ha]
      rw [← ha]
      clear ha
      refine wpOps_cons (o := mkO (some 6) (.move (.tmp 1)) tm (x 0)) rfl rfl (wp_value (v := .map (some bs)) (w' := w) ?_ ?_)
      · simp only [execOp, mkO, eval_tmp h1, Sem.run_pure]
      have b6 := put_get_self (a := a) (d := 6) (v := .map (some bs)) (by omega)
      have hrun := run_range_map (P := P) w tm tk te bs en cl (tMap_ok hmap) hws
      refine wpOps_cons (o := mkO (some 7) (.range tm (.tmp 6)) 0 (x 1)) rfl rfl (wp_value (v := .pointer (some ⟨w.heap.size, 0, none⟩)) (w' := w.alloc (.mapIter (some bs) cl #[] cl)) ?_ ?_)
      · simp only [mkO] at b6 ⊢
        simp only [execOp, Sem.run_bind, eval_tmp b6, hrun, Result.andThen_ok, Sem.run_pure]
      show (Code.block 0 (.loop (copyRound tm tk te tb x))).wp P _ ((a.put (some 6) (.map (some bs))).put (some 7) (.pointer (some ⟨w.heap.size, 0, none⟩))) (w.alloc (.mapIter (some bs) cl #[] cl))
      refine wp_block (wp_rounds (copy_rounds (x := x) (tb := tb) (en := en) (cl := cl) (bs := bs) (bd := bd) (r := w.heap.size) (w := w) (h := h) (β := β) (d := d) (ed := ed) (pairs := es.zip l) hdom hrel.low hbd hbslt hbne hmap hkd L ?_ _ (es.zip l) [] rfl (by simp) _ _ ?_))
      · intro dn a' w' hperm I
        simp only [Exit.inBlock, if_true]
        have hgo : Goes ρ β h w β (h.put d (some (.mp (ed ++ es)))) w' := by
          have g := I.goes
          have hpd : (ed ++ dn.map (·.1)).Perm (ed ++ es) := by
            refine List.Perm.append_left _ ?_
            have := hperm.map (·.1)
            rw [z2] at this
            exact this
          have same : ∀ d' es', d' ≠ d → (h.put d (some (.mp es'))).bl.get d' = h.bl.get d' := fun d' es' hdd => T.get_set_ne _ _ _ _ _ (Ne.symm hdd)
          have self : ∀ es', (h.put d (some (.mp es'))).bl.get d = some (.mp es') := fun es' => T.get_set_same _ _ _ _ (Nat.lt_succ_self _)
          refine ⟨g.le, ⟨?_, ?_, ?_, g.rel.low⟩, g.dom, g.nx, g.frame, g.fresh⟩
          · intro d' m o z c hb' hc
            by_cases hdd : d' = d
            · subst hdd; rw [self] at hc; cases hc
            · rw [same _ _ hdd] at hc
              exact g.rel.cells d' m o z c hb' (by rw [same _ _ hdd]; exact hc)
          · intro d' m o z c hb' hc
            by_cases hdd : d' = d
            · subst hdd
              rw [self] at hc
              cases hc
              obtain ⟨en', cl', k1, k2⟩ := g.rel.maps d' m o z _ hb' (self _)
              exact ⟨en', cl', k1, k2.order hpd⟩
            · rw [same _ _ hdd] at hc
              exact g.rel.maps d' m o z c hb' (by rw [same _ _ hdd]; exact hc)
          · intro d₁ d₂ m o z o' z' hb₁ hb₂ s1 s2
            refine g.rel.inj d₁ d₂ m o z o' z' hb₁ hb₂ ?_ ?_
            · by_cases hdd : d₁ = d
              · subst hdd; rw [self]; rfl
              · rw [same _ _ hdd] at s1 ⊢; exact s1
            · by_cases hdd : d₂ = d
              · subst hdd; rw [self]; rfl
              · rw [same _ _ hdd] at s2 ⊢; exact s2
        refine ⟨I.defers, .tuple #[], ?_, .tuple #[], rfl, β, hgo, ?_⟩
        · unfold results
          rw [hres]
          simp
        · simp only [VRel, VRels]
          exact ⟨#[], rfl, rfl⟩
      · have hgr := HRel.of_heap hrel (w' := w) rfl
        refine ⟨?_, ?_, ⟨cl, #[], cl, ?_, Nat.le_refl _, Nat.le_refl _, hst.lt, by simp⟩, Nat.le_refl _, ?_, ?_, by simp only [put_size]; exact hsz, by simp only [put_defers]; exact hdf⟩
        · have hself : Goes ρ β h w β (h.put d (some (.mp (ed ++ ([] : List ((V × V) × MapEntry)).map (·.1))))) w := by
            rw [List.map_nil, List.append_nil]
            have same : ∀ d', (h.put d (some (.mp ed))).bl.get d' = h.bl.get d' := by
              intro d'
              by_cases hdd : d' = d
              · subst hdd
                rw [map_ok hed]
                exact T.get_set_same _ _ _ _ (Nat.lt_succ_self _)
              · exact T.get_set_ne _ _ _ _ _ (Ne.symm hdd)
            refine ⟨.refl β, ⟨?_, ?_, ?_, hrel.low⟩, hdom, Nat.le_refl _, .refl β w, fun _ _ _ _ h1 h2 => by rw [h1] at h2; cases h2⟩
            · intro d' m o z c hb' hc
              rw [same] at hc
              exact hrel.cells d' m o z c hb' hc
            · intro d' m o z c hb' hc
              rw [same] at hc
              exact hrel.maps d' m o z c hb' hc
            · intro d₁ d₂ m o z o' z' hb₁ hb₂ s1 s2
              rw [same] at s1 s2
              exact hrel.inj d₁ d₂ m o z o' z' hb₁ hb₂ s1 s2
          refine goes_beside hself hdom hrel.low (by simp) (fun k hk => ?_) rfl rfl
          show (w.heap.push _)[k]? = _
          rw [Array.getElem?_push_lt hk, Array.getElem?_eq_getElem hk]
        · show (w.heap.push _)[bs]? = _
          rw [Array.getElem?_push_lt hbslt, ← Array.getElem?_eq_getElem hbslt]
          exact hws
        · exact heap_alloc_new w _
        · rw [put_get_ne (by omega), put_get_ne (by omega)]; exact h0
        · exact put_get_self (by simp only [put_size]; omega)
    · cases e
  · simp only [hg, if_false] at e
    cases e
end Go.Dm
namespace Go.Dm
variable {ρ : Env} {P : Program}

def cloneBody (tb ts tl tp ti : Nat) (x : Nat → String × Array Edge) : Code :=
  .seq (.region 0 #[mkO (some 2) (.assign (.const (.string { data := #[] }))) ts (x 0)] false)
  (.seq (.seq (.region 1 #[mkO (some 4) (.move (.tmp 0)) ts (x 1), mkO (some 5) (.call { callee := .builtin .len, args := #[.tmp 4], argTypes := #[ts] }) ti (x 2), mkO (some 6) (.binOp .eql ti (.tmp 5) (.const (.int .i64 0)) ti) tb (x 3)] false)
      (.cond (.tmp 6) (.seq (.region 2 #[mkO (some 2) (.assign (.const (.string { data := #[] }))) ts (x 4)] false) .ret) .skip))
  (.seq (.region 3 #[mkO (some 7) (.move (.tmp 0)) ts (x 5), mkO (some 8) (.call { callee := .builtin .len, args := #[.tmp 7], argTypes := #[ts] }) ti (x 6), mkO (some 9) (.makeSlice tl (.tmp 8) (.tmp 8)) tl (x 7), mkO (some 3) (.assign (.tmp 9)) tl (x 8)] false)
  (.seq (.region 4 #[mkO (some 10) (.move (.tmp 3)) tl (x 9), mkO (some 11) (.move (.tmp 0)) ts (x 10), mkO (some 12) (.call { callee := .builtin .copy, args := #[.tmp 10, .tmp 11], argTypes := #[tl, ts] }) ti (x 11)] false)
  (.seq (.region 5 #[mkO (some 13) (.move (.tmp 3)) tl (x 12), mkO (some 14) (.indexAddr tl (.tmp 13) (.const (.int .i64 0))) 0 (x 13), mkO (some 15) (.move (.tmp 3)) tl (x 14), mkO (some 16) (.call { callee := .builtin .len, args := #[.tmp 15], argTypes := #[tl] }) ti (x 15),
      mkO (some 17) (.call { callee := .builtin .unsafeString, args := #[.tmp 14, .tmp 16], argTypes := #[tp, ti] }) ts (x 16), mkO (some 2) (.assign (.tmp 17)) ts (x 17)] false) .ret))))
def cloneS (args : List V) (h : H) : R (V × H) := match args with
  | [.s l] => bif Nat.ble (lenN l 0) 1000000000 then .ok (.s l, h) else .err 430
  | _ => .err 431
theorem run_len_string {ts : Nat} (hu : P.underlying ts = some .string) (s : ByteArray) (ty : Nat) (w : World) : (Builtin.len_ #[ts] ty #[.string s]).run P w = .ok (.int .i64 s.size) w := by
  have h0 : (#[ts] : Array Nat)[0]? = some ts := rfl
  have h1 : (#[Value.string s] : Array Value)[0]? = some (.string s) := rfl
  simp only [Builtin.len_, h0, h1, Sem.run_bind, run_underlying hu, Result.andThen_ok, goInt, Sem.run_pure]
theorem run_len_slice {tl e : Nat} (hu : P.underlying tl = some (.slice e)) (a : Option Addr) (n c : Nat) (ty : Nat) (w : World) : (Builtin.len_ #[tl] ty #[.slice a n c]).run P w = .ok (.int .i64 n) w := by
  have h0 : (#[tl] : Array Nat)[0]? = some tl := rfl
  have h1 : (#[Value.slice a n c] : Array Value)[0]? = some (.slice a n c) := rfl
  simp only [Builtin.len_, h0, h1, Sem.run_bind, run_underlying hu, Result.andThen_ok, goInt, Sem.run_pure]
theorem exec_builtin {o : Oper} {a : Go.Act} {b : Builtin} {args : Array Operand} {ts : Array Nat} {w w' : World} {vs : Array Value} {v : Value} (ho : o.op = .call { callee := .builtin b, args := args, argTypes := ts }) (hargs : args.map a.eval = vs)
    (h : ∀ cs, (builtin b ts o.type cs vs).run P w = .ok (.value v) w') : (execOp a.eval o).run P w = .ok (.value v) w' := by
  obtain ⟨dst, op, ty, pos, after, guard⟩ := o
  simp only at ho
  subst ho
  simp only [execOp, resolve, hargs, Sem.run_bind, Sem.run_pure, Result.andThen_ok, invoke]
  exact h _
theorem run_indexAddr0 {tl e : Nat} (hu : P.underlying tl = some (.slice e)) (hs : tSize P e = .ok 1) {n : Nat} (hn : 0 < n) (m c : Nat) (w : World) :
    (Instr.indexAt tl (.slice (some ⟨m, 0, none⟩) n c) (.int .i64 0)).run P w = .ok (.pointer (some ⟨m, 0, none⟩)) w := by
  have hlt : (0 : Int) < (n : Int) := by omega
  simp [Instr.indexAt, asIntOf, run_underlying hu, run_size hs, Addr.add]
  omega
theorem tmps_put {a : Go.Act} {d : Nat} {v : Value} : a.put (some d) v = { a with tmps := a.tmps.setIfInBounds d v } := rfl
theorem clone_rest {ts tl tp ti te : Nat} {x : Nat → String × Array Edge} {ie : TypeInfo} {a : Go.Act} {w : World} {s : ByteArray} {Q : Exit → Go.Act → World → Prop}
    (hts : P.underlying ts = some .string) (htl : P.underlying tl = some (.slice te)) (htp : P.underlying tp = some (.pointer te)) (hte : P.info? te = some ie) (hz : ie.zero = some (.int .u8 0)) (hsz : ie.size = 1) (hby : ie.bytes = 1)
    (hlen : s.size ≤ 1000000000) (hs0 : s.size ≠ 0) (h0 : a.tmps[0]? = some (.string s)) (hs : a.tmps.size = 18)
    (hQ : ∀ a' w', a'.tmps[2]? = some (.string s) → a'.defers = a.defers → w.heap.size ≤ w'.heap.size → (∀ m, m < w.heap.size → w'.heap[m]? = w.heap[m]?) → w'.os = w.os → w'.output = w.output → Q .ret a' w') :
    (Code.seq (.region 3 #[mkO (some 7) (.move (.tmp 0)) ts (x 5), mkO (some 8) (.call { callee := .builtin .len, args := #[.tmp 7], argTypes := #[ts] }) ti (x 6), mkO (some 9) (.makeSlice tl (.tmp 8) (.tmp 8)) tl (x 7), mkO (some 3) (.assign (.tmp 9)) tl (x 8)] false)
  (.seq (.region 4 #[mkO (some 10) (.move (.tmp 3)) tl (x 9), mkO (some 11) (.move (.tmp 0)) ts (x 10), mkO (some 12) (.call { callee := .builtin .copy, args := #[.tmp 10, .tmp 11], argTypes := #[tl, ts] }) ti (x 11)] false)
  (.seq (.region 5 #[mkO (some 13) (.move (.tmp 3)) tl (x 12), mkO (some 14) (.indexAddr tl (.tmp 13) (.const (.int .i64 0))) 0 (x 13), mkO (some 15) (.move (.tmp 3)) tl (x 14), mkO (some 16) (.call { callee := .builtin .len, args := #[.tmp 15], argTypes := #[tl] }) ti (x 15),
      mkO (some 17) (.call { callee := .builtin .unsafeString, args := #[.tmp 14, .tmp 16], argTypes := #[tp, ti] }) ts (x 16), mkO (some 2) (.assign (.tmp 17)) ts (x 17)] false) .ret))).wp P Q a w := by
  -- the worlds
  obtain ⟨M, hM⟩ : ∃ M, M = madeCells (Value.int .u8 0).cells (s.size * ie.size) := ⟨_, rfl⟩
  have hMs : M.size = s.size := by rw [hM, size_madeCells, hsz]; simp
  obtain ⟨m, hm⟩ : ∃ m, m = w.heap.size := ⟨_, rfl⟩
  obtain ⟨w1, hw1⟩ : ∃ w1 : World, w1 = w.alloc (.cells M te) := ⟨_, rfl⟩
  have hmk : (Instr.makeSlice tl (.int .i64 (s.size : Int)) (.int .i64 (s.size : Int))).run P w = .ok (.slice (some ⟨m, 0, none⟩) s.size s.size) w1 := by
    have h := run_make (P := P) w tl te ie (.int .u8 0) htl hte hz .i64 .i64 (s.size : Int) (s.size : Int) (by omega) (by omega) (by rw [hby]; omega) (by omega)
    rw [Int.toNat_natCast, ← hM] at h
    rw [hm, hw1]
    exact h
  have hinfo : (P.info? te).map (·.size) = some 1 := by rw [hte]; simp [hsz]
  have hco : P.cellsOf te = 1 := by simp [Program.cellsOf, hte, hsz]
  have hg1 : w1.heap[m]? = some (.cells M te (0, 0)) := by rw [hm, hw1]; exact heap_alloc_new w _
  have hcp := Lib.run_copy_row_string (P := P) w1 tl ts ti te m 0 s.size s.size s M te htl hinfo hg1 (Nat.le_refl _) (by omega)
  obtain ⟨Y, hY⟩ : ∃ Y, Y = (M.toList.take 0 ++ Lib.byteCells s.data.toList ++ M.toList.drop (0 + s.size)).toArray := ⟨_, rfl⟩
  rw [← hY] at hcp
  have hYl : Y.toList = Lib.byteCells s.data.toList := by
    rw [hY, List.toList_toArray, List.take_zero, List.nil_append, List.drop_of_length_le (by rw [Array.length_toList]; omega), List.append_nil]
  have hsl : s.data.toList.length = s.size := by rw [Array.length_toList]; rfl
  have hYs : Y.size = s.size := by rw [← Array.length_toList, hYl, Lib.byteCells_length, hsl]
  obtain ⟨w2, hw2⟩ : ∃ w2 : World, w2 = w1.setRow m Y := ⟨_, rfl⟩
  have hg2 : w2.heap[m]? = some (.cells Y te (0, 0)) := by rw [hw2]; exact setRow_heap _ _ M _ te (0, 0) hg1
  rw [← hw2] at hcp
  have hne : s.data.toList ≠ [] := fun e => hs0 (by rw [← hsl, e]; rfl)
  have hUS := Lib.run_unsafeString_row (P := P) w2 tp ti ts te htp hco m Y.size (by unfold World.shape?; rw [hg2]) s.data.toList hne (by omega) (by omega)
    (fun j y hy => Lib.cells_of_row hg2 Y.size j _ (by rw [List.take_of_length_le (by rw [Array.length_toList]; exact Nat.le_refl _), hYl]; simp [Lib.byteCells, hy]))
  rw [hsl] at hUS
  obtain ⟨w3, hw3⟩ : ∃ w3 : World, w3 = w2.freeze ⟨m, 0, none⟩ s.size := ⟨_, rfl⟩
  rw [← hw3] at hUS
  have hsback : (⟨s.data.toList.toArray⟩ : ByteArray) = s := by
    apply ByteArray.ext; simp
  rw [hsback] at hUS
  have hs1 : w1.heap.size = m + 1 := by
    rw [hw1, hm]
    show (w.heap.push _).size = _
    exact Array.size_push ..
  have e3 : ∀ k, k < m → w3.heap[k]? = w.heap[k]? := by
    intro k hk
    have h1 : w1.heap[k]? = w.heap[k]? := by
      rw [hw1]
      show (w.heap.push _)[k]? = _
      rw [Array.getElem?_push_lt (by omega), ← Array.getElem?_eq_getElem (by omega)]
    have h2 : w2.heap[k]? = w1.heap[k]? := by
      rw [hw2]
      simp only [World.setRow, Array.getElem?_modify]
      rw [if_neg (by omega)]
    have h3 : w3.heap[k]? = w2.heap[k]? := by
      rw [hw3]
      unfold World.freeze
      split
      · rfl
      · simp only [Array.getElem?_modify]
        rw [if_neg (by omega)]
    rw [h3, h2, h1]
  have o3 : w3.os = w.os ∧ w3.output = w.output ∧ w3.heap.size = m + 1 := by
    have h2 : w2.os = w1.os ∧ w2.output = w1.output ∧ w2.heap.size = w1.heap.size := by rw [hw2]; exact ⟨rfl, rfl, by simp [World.setRow]⟩
    have h3 : w3.os = w2.os ∧ w3.output = w2.output ∧ w3.heap.size = w2.heap.size := by
      rw [hw3]
      unfold World.freeze
      split
      · exact ⟨rfl, rfl, rfl⟩
      · exact ⟨rfl, rfl, by simp⟩
    refine ⟨?_, ?_, by rw [h3.2.2, h2.2.2, hs1]⟩
    · rw [h3.1, h2.1, hw1]; rfl
    · rw [h3.2.1, h2.2.1, hw1]; rfl
  -- the walk
  have keep : ∀ (b : Go.Act) (d : Nat) (v : Value), b.tmps.size = 18 → (b.put (some d) v).tmps.size = 18 := fun b d v h => by rw [put_size]; exact h
  refine wp_seq (wp_region ?_)
  show wpOps P _ _ [0, 1, 2, 3] a w
  refine wpOps_cons (o := mkO (some 7) (.move (.tmp 0)) ts (x 5)) rfl rfl (wp_value (v := .string s) (w' := w) ?_ ?_)
  · simp only [execOp, mkO, eval_tmp h0, Sem.run_pure]
  obtain ⟨a1, ha1⟩ : ∃ a1, a1 = a.put (some 7) (.string s) := ⟨_, rfl⟩
  have s1 : a1.tmps.size = 18 := by rw [ha1]; exact keep _ _ _ hs
  have b7 : a1.tmps[7]? = some (.string s) := by rw [ha1]; exact put_get_self (by omega)
  have b0 : a1.tmps[0]? = some (.string s) := by rw [ha1, put_get_ne (by omega)]; exact h0
  have d1 : a1.defers = a.defers := by rw [ha1, put_defers]
  show wpOps P _ _ [1, 2, 3] (a.put (some 7) (.string s)) w
  rw [← ha1]
  clear ha1
  refine wpOps_cons (o := mkO (some 8) (.call { callee := .builtin .len, args := #[.tmp 7], argTypes := #[ts] }) ti (x 6)) rfl rfl (wp_value (v := .int .i64 s.size) (w' := w) (exec_builtin rfl (vs := #[.string s]) ?_ fun cs => ?_) ?_)
  · simp only [List.map_toArray, List.map_cons, List.map_nil, eval_tmp b7]
  · simp only [builtin, Sem.run_bind, run_len_string hts, Result.andThen_ok, Sem.run_pure]
  obtain ⟨a2, ha2⟩ : ∃ a2, a2 = a1.put (some 8) (.int .i64 s.size) := ⟨_, rfl⟩
  have s2 : a2.tmps.size = 18 := by rw [ha2]; exact keep _ _ _ s1
  have b8 : a2.tmps[8]? = some (.int .i64 s.size) := by rw [ha2]; exact put_get_self (by omega)
  have c0 : a2.tmps[0]? = some (.string s) := by rw [ha2, put_get_ne (by omega)]; exact b0
  have d2 : a2.defers = a.defers := by rw [ha2, put_defers]; exact d1
  show wpOps P _ _ [2, 3] (a1.put (some 8) (.int .i64 s.size)) w
  rw [← ha2]
  clear ha2
  refine wpOps_cons (o := mkO (some 9) (.makeSlice tl (.tmp 8) (.tmp 8)) tl (x 7)) rfl rfl (wp_value (v := .slice (some ⟨m, 0, none⟩) s.size s.size) (w' := w1) ?_ ?_)
  · simp only [execOp, mkO, Sem.run_bind, eval_tmp b8, hmk, Result.andThen_ok, Sem.run_pure]
  obtain ⟨a3, ha3⟩ : ∃ a3, a3 = a2.put (some 9) (.slice (some ⟨m, 0, none⟩) s.size s.size) := ⟨_, rfl⟩
  have s3 : a3.tmps.size = 18 := by rw [ha3]; exact keep _ _ _ s2
  have b9 : a3.tmps[9]? = some (.slice (some ⟨m, 0, none⟩) s.size s.size) := by rw [ha3]; exact put_get_self (by omega)
  have f0 : a3.tmps[0]? = some (.string s) := by rw [ha3, put_get_ne (by omega)]; exact c0
  have d3 : a3.defers = a.defers := by rw [ha3, put_defers]; exact d2
  show wpOps P _ _ [3] (a2.put (some 9) (.slice (some ⟨m, 0, none⟩) s.size s.size)) w1
  rw [← ha3]
  clear ha3
  refine wpOps_cons (o := mkO (some 3) (.assign (.tmp 9)) tl (x 8)) rfl rfl (wp_value (v := .slice (some ⟨m, 0, none⟩) s.size s.size) (w' := w1) ?_ ?_)
  · simp only [execOp, mkO, eval_tmp b9, Sem.run_pure]
  obtain ⟨a4, ha4⟩ : ∃ a4, a4 = a3.put (some 3) (.slice (some ⟨m, 0, none⟩) s.size s.size) := ⟨_, rfl⟩
  have s4 : a4.tmps.size = 18 := by rw [ha4]; exact keep _ _ _ s3
  have b3 : a4.tmps[3]? = some (.slice (some ⟨m, 0, none⟩) s.size s.size) := by rw [ha4]; exact put_get_self (by omega)
  have i0 : a4.tmps[0]? = some (.string s) := by rw [ha4, put_get_ne (by omega)]; exact f0
  have d4 : a4.defers = a.defers := by rw [ha4, put_defers]; exact d3
  show (Code.seq _ _).wp P _ (a3.put (some 3) (.slice (some ⟨m, 0, none⟩) s.size s.size)) w1
  rw [← ha4]
  clear ha4
  refine wp_seq (wp_region ?_)
  show wpOps P _ _ [0, 1, 2] a4 w1
  refine wpOps_cons (o := mkO (some 10) (.move (.tmp 3)) tl (x 9)) rfl rfl (wp_value (v := .slice (some ⟨m, 0, none⟩) s.size s.size) (w' := w1) ?_ ?_)
  · simp only [execOp, mkO, eval_tmp b3, Sem.run_pure]
  refine wpOps_cons (o := mkO (some 11) (.move (.tmp 0)) ts (x 10)) rfl rfl (wp_value (v := .string s) (w' := w1) ?_ ?_)
  · have : (a4.put (some 10) (.slice (some ⟨m, 0, none⟩) s.size s.size)).tmps[0]? = some (.string s) := by rw [put_get_ne (by omega)]; exact i0
    simp only [mkO]
    simp only [execOp, eval_tmp this, Sem.run_pure]
  obtain ⟨a5, ha5⟩ : ∃ a5, a5 = (a4.put (some 10) (.slice (some ⟨m, 0, none⟩) s.size s.size)).put (some 11) (.string s) := ⟨_, rfl⟩
  have s5 : a5.tmps.size = 18 := by rw [ha5]; exact keep _ _ _ (keep _ _ _ s4)
  have b10 : a5.tmps[10]? = some (.slice (some ⟨m, 0, none⟩) s.size s.size) := by rw [ha5, put_get_ne (by omega)]; exact put_get_self (by omega)
  have b11 : a5.tmps[11]? = some (.string s) := by rw [ha5]; exact put_get_self (by rw [put_size]; omega)
  have j3 : a5.tmps[3]? = some (.slice (some ⟨m, 0, none⟩) s.size s.size) := by rw [ha5, put_get_ne (by omega), put_get_ne (by omega)]; exact b3
  have d5 : a5.defers = a.defers := by rw [ha5, put_defers, put_defers]; exact d4
  show wpOps P _ _ [2] ((a4.put (some 10) (.slice (some ⟨m, 0, none⟩) s.size s.size)).put (some 11) (.string s)) w1
  rw [← ha5]
  clear ha5
  refine wpOps_cons (o := mkO (some 12) (.call { callee := .builtin .copy, args := #[.tmp 10, .tmp 11], argTypes := #[tl, ts] }) ti (x 11)) rfl rfl (wp_value (v := goInt s.size) (w' := w2) (exec_builtin rfl (vs := #[.slice (some ⟨m, 0, none⟩) s.size s.size, .string s]) ?_ fun cs => ?_) ?_)
  · simp only [List.map_toArray, List.map_cons, List.map_nil, eval_tmp b10, eval_tmp b11]
  · simp only [builtin, mkO, Sem.run_bind, hcp, Result.andThen_ok, Sem.run_pure]
  obtain ⟨a6, ha6⟩ : ∃ a6, a6 = a5.put (some 12) (goInt s.size) := ⟨_, rfl⟩
  have s6 : a6.tmps.size = 18 := by rw [ha6]; exact keep _ _ _ s5
  have k3 : a6.tmps[3]? = some (.slice (some ⟨m, 0, none⟩) s.size s.size) := by rw [ha6, put_get_ne (by omega)]; exact j3
  have d6 : a6.defers = a.defers := by rw [ha6, put_defers]; exact d5
  show (Code.seq _ _).wp P _ (a5.put (some 12) (goInt s.size)) w2
  rw [← ha6]
  clear ha6
  refine wp_seq (wp_region ?_)
  show wpOps P _ _ [0, 1, 2, 3, 4, 5] a6 w2
  refine wpOps_cons (o := mkO (some 13) (.move (.tmp 3)) tl (x 12)) rfl rfl (wp_value (v := .slice (some ⟨m, 0, none⟩) s.size s.size) (w' := w2) ?_ ?_)
  · simp only [execOp, mkO, eval_tmp k3, Sem.run_pure]
  obtain ⟨a7, ha7⟩ : ∃ a7, a7 = a6.put (some 13) (.slice (some ⟨m, 0, none⟩) s.size s.size) := ⟨_, rfl⟩
  have s7 : a7.tmps.size = 18 := by rw [ha7]; exact keep _ _ _ s6
  have b13 : a7.tmps[13]? = some (.slice (some ⟨m, 0, none⟩) s.size s.size) := by rw [ha7]; exact put_get_self (by omega)
  have l3 : a7.tmps[3]? = some (.slice (some ⟨m, 0, none⟩) s.size s.size) := by rw [ha7, put_get_ne (by omega)]; exact k3
  have d7 : a7.defers = a.defers := by rw [ha7, put_defers]; exact d6
  show wpOps P _ _ [1, 2, 3, 4, 5] (a6.put (some 13) (.slice (some ⟨m, 0, none⟩) s.size s.size)) w2
  rw [← ha7]
  clear ha7
  have hix := run_indexAddr0 (P := P) htl (e := te) (n := s.size) (by simp only [tSize, hte, hsz]) (by omega) m s.size w2
  refine wpOps_cons (o := mkO (some 14) (.indexAddr tl (.tmp 13) (.const (.int .i64 0))) 0 (x 13)) rfl rfl (wp_value (v := .pointer (some ⟨m, 0, none⟩)) (w' := w2) ?_ ?_)
  · have hc : a7.eval (.const (.int .i64 0)) = .int .i64 0 := rfl
    simp only [execOp, mkO, Sem.run_bind, eval_tmp b13, hc, hix, Result.andThen_ok, Sem.run_pure]
  obtain ⟨a8, ha8⟩ : ∃ a8, a8 = a7.put (some 14) (.pointer (some ⟨m, 0, none⟩)) := ⟨_, rfl⟩
  have s8 : a8.tmps.size = 18 := by rw [ha8]; exact keep _ _ _ s7
  have b14 : a8.tmps[14]? = some (.pointer (some ⟨m, 0, none⟩)) := by rw [ha8]; exact put_get_self (by omega)
  have m3 : a8.tmps[3]? = some (.slice (some ⟨m, 0, none⟩) s.size s.size) := by rw [ha8, put_get_ne (by omega)]; exact l3
  have d8 : a8.defers = a.defers := by rw [ha8, put_defers]; exact d7
  show wpOps P _ _ [2, 3, 4, 5] (a7.put (some 14) (.pointer (some ⟨m, 0, none⟩))) w2
  rw [← ha8]
  clear ha8
  refine wpOps_cons (o := mkO (some 15) (.move (.tmp 3)) tl (x 14)) rfl rfl (wp_value (v := .slice (some ⟨m, 0, none⟩) s.size s.size) (w' := w2) ?_ ?_)
  · simp only [execOp, mkO, eval_tmp m3, Sem.run_pure]
  obtain ⟨a9, ha9⟩ : ∃ a9, a9 = a8.put (some 15) (.slice (some ⟨m, 0, none⟩) s.size s.size) := ⟨_, rfl⟩
  have s9 : a9.tmps.size = 18 := by rw [ha9]; exact keep _ _ _ s8
  have b15 : a9.tmps[15]? = some (.slice (some ⟨m, 0, none⟩) s.size s.size) := by rw [ha9]; exact put_get_self (by omega)
  have n14 : a9.tmps[14]? = some (.pointer (some ⟨m, 0, none⟩)) := by rw [ha9, put_get_ne (by omega)]; exact b14
  have d9 : a9.defers = a.defers := by rw [ha9, put_defers]; exact d8
  show wpOps P _ _ [3, 4, 5] (a8.put (some 15) (.slice (some ⟨m, 0, none⟩) s.size s.size)) w2
  rw [← ha9]
  clear ha9
  refine wpOps_cons (o := mkO (some 16) (.call { callee := .builtin .len, args := #[.tmp 15], argTypes := #[tl] }) ti (x 15)) rfl rfl (wp_value (v := .int .i64 s.size) (w' := w2) (exec_builtin rfl (vs := #[.slice (some ⟨m, 0, none⟩) s.size s.size]) ?_ fun cs => ?_) ?_)
  · simp only [List.map_toArray, List.map_cons, List.map_nil, eval_tmp b15]
  · simp only [builtin, Sem.run_bind, run_len_slice htl, Result.andThen_ok, Sem.run_pure]
  obtain ⟨aa, haa⟩ : ∃ aa, aa = a9.put (some 16) (.int .i64 s.size) := ⟨_, rfl⟩
  have sa : aa.tmps.size = 18 := by rw [haa]; exact keep _ _ _ s9
  have b16 : aa.tmps[16]? = some (.int .i64 s.size) := by rw [haa]; exact put_get_self (by omega)
  have o14 : aa.tmps[14]? = some (.pointer (some ⟨m, 0, none⟩)) := by rw [haa, put_get_ne (by omega)]; exact n14
  have da : aa.defers = a.defers := by rw [haa, put_defers]; exact d9
  show wpOps P _ _ [4, 5] (a9.put (some 16) (.int .i64 s.size)) w2
  rw [← haa]
  clear haa
  refine wpOps_cons (o := mkO (some 17) (.call { callee := .builtin .unsafeString, args := #[.tmp 14, .tmp 16], argTypes := #[tp, ti] }) ts (x 16)) rfl rfl (wp_value (v := .string s) (w' := w3) (exec_builtin rfl (vs := #[.pointer (some ⟨m, 0, none⟩), .int .i64 s.size]) ?_ fun cs => ?_) ?_)
  · simp only [List.map_toArray, List.map_cons, List.map_nil, eval_tmp b16, eval_tmp o14]
  · simp only [builtin, mkO, Sem.run_bind, hUS, Result.andThen_ok, Sem.run_pure]
  have b17 : (aa.put (some 17) (.string s)).tmps[17]? = some (.string s) := put_get_self (by omega)
  refine wpOps_cons (o := mkO (some 2) (.assign (.tmp 17)) ts (x 17)) rfl rfl (wp_value (v := .string s) (w' := w3) ?_ ?_)
  · simp only [mkO] at b17 ⊢
    simp only [execOp, eval_tmp b17, Sem.run_pure]
  refine wp_ret (hQ _ w3 (put_get_self (by rw [put_size]; omega)) (by simp only [put_defers]; exact da) (by omega) (fun k hk => e3 k (by omega)) o3.1 o3.2.1)
set_option maxHeartbeats 4000000 in
theorem clone_ok {f tb ts tl tp ti te : Nat} {fn : Func} {x : Nat → String × Array Edge} {ie : TypeInfo} (hf : P.funcs[f]? = some fn) (hb : fn.body = some (cloneBody tb ts tl tp ti x)) (hn : fn.ntmps = 18) (hname : (fn.name == "runtime.NumGoroutine") = false) (hres : fn.results = #[.tmp 2])
    (hts : P.underlying ts = some .string) (htl : P.underlying tl = some (.slice te)) (htp : P.underlying tp = some (.pointer te)) (hti : tKa P ti = some .i) (hta : tAgg P ti = none) (hte : P.info? te = some ie) (hz : ie.zero = some (.int .u8 0)) (hsz : ie.size = 1) (hby : ie.bytes = 1) :
    CallOk ρ P fun g args h => if g = f then cloneS args h else .err 0 := by
  intro g args h y h' e
  by_cases hg : g = f
  · subst hg
    simp only [if_true] at e
    unfold cloneS at e
    split at e
    · rename_i l
      obtain ⟨hlen, e⟩ := cond_ok e
      cases e
      rw [ble_eq, decide_eq_true_eq, lenN_eq, Nat.add_zero] at hlen
      refine ⟨⟨fn, hf, hname, by rw [hb]; rfl⟩, fun β w args' hrel hdom hargs => ?_⟩
      simp only [VRels] at hargs
      obtain ⟨v1, r1, e1, hv1, rfl⟩ := hargs
      obtain ⟨s, rfl, hsl⟩ := vrel_s hv1
      have hae : args' = #[.string s] := by apply Array.ext'; rw [e1]
      subst hae
      have hss := size_of hsl
      -- the end
      have fin : ∀ (a : Go.Act) (w' : World), a.tmps[2]? = some (.string s) → a.defers = [] → w.heap.size ≤ w'.heap.size → (∀ m, m < w.heap.size → w'.heap[m]? = w.heap[m]?) → w'.os = w.os → w'.output = w.output →
          bodyPost P fn (fun e w' => ∃ q, e = .returned q ∧ Acts ρ β h w (.s l) h q w') .ret a w' := by
        intro a w' h2 hd h3 h4 h5 h6
        refine ⟨hd, .string s, ?_, .string s, rfl, β, ?_, vrel_mk_s hsl⟩
        · unfold results
          rw [hres]
          simp [h2]
        · exact goes_beside (.refl hrel hdom) hdom hrel.low h3 h4 h5 h6
      refine calls_of_wp hf hb ?_
      rw [hn]
      obtain ⟨a, ha⟩ : ∃ a : Go.Act, a = { tmps := #[Value.string s] ++ Array.replicate (18 - (#[Value.string s] : Array Value).size) undef, defers := [] } := ⟨_, rfl⟩
      have hsize : a.tmps.size = 18 := by rw [ha]; simp
      have h0 : a.tmps[0]? = some (.string s) := by
        rw [ha]
        show (#[Value.string s] ++ Array.replicate _ _)[0]? = _
        rw [Array.getElem?_append_left (by simp)]
        simp
      have hdf : a.defers = [] := by rw [ha]
      rw [← ha]
      clear ha
      refine wp_seq (wp_region ?_)
      show wpOps P _ _ [0] a w
      refine wpOps_cons (o := mkO (some 2) (.assign (.const (.string { data := #[] }))) ts (x 0)) rfl rfl (wp_value (v := .string { data := #[] }) (w' := w) ?_ ?_)
      · simp only [execOp, mkO, Go.Act.eval, Sem.run_pure]
      obtain ⟨a1, ha1⟩ : ∃ a1, a1 = a.put (some 2) (.string { data := #[] }) := ⟨_, rfl⟩
      have h10 : a1.tmps[0]? = some (.string s) := by rw [ha1, put_get_ne (by omega)]; exact h0
      have h12 : a1.tmps[2]? = some (.string { data := #[] }) := by rw [ha1]; exact put_get_self (by omega)
      have hs1 : a1.tmps.size = 18 := by rw [ha1, put_size]; exact hsize
      have hd1 : a1.defers = [] := by rw [ha1, put_defers]; exact hdf
      show (Code.seq _ _).wp P _ (a.put (some 2) (.string { data := #[] })) w
      rw [← ha1]
      clear ha1
      refine wp_seq (wp_seq (wp_region ?_))
      show wpOps P _ _ [0, 1, 2] a1 w
      refine wpOps_cons (o := mkO (some 4) (.move (.tmp 0)) ts (x 1)) rfl rfl (wp_value (v := .string s) (w' := w) ?_ ?_)
      · simp only [execOp, mkO, eval_tmp h10, Sem.run_pure]
      have b4 : (a1.put (some 4) (.string s)).tmps[4]? = some (.string s) := put_get_self (by omega)
      refine wpOps_cons (o := mkO (some 5) (.call { callee := .builtin .len, args := #[.tmp 4], argTypes := #[ts] }) ti (x 2)) rfl rfl (wp_value (v := .int .i64 s.size) (w' := w) (exec_builtin rfl (vs := #[.string s]) ?_ fun cs => ?_) ?_)
      · simp only [List.map_toArray, List.map_cons, List.map_nil]
        rw [show (mkO (some 4) (.move (.tmp 0)) ts (x 1)).dst = some 4 from rfl, eval_tmp b4]
      · simp only [builtin, Sem.run_bind, run_len_string hts, Result.andThen_ok, Sem.run_pure]
      have b5 : ((a1.put (some 4) (.string s)).put (some 5) (.int .i64 s.size)).tmps[5]? = some (.int .i64 s.size) := put_get_self (by rw [put_size]; omega)
      obtain ⟨a2, ha2⟩ : ∃ a2, a2 = (a1.put (some 4) (.string s)).put (some 5) (.int .i64 s.size) := ⟨_, rfl⟩
      have h20 : a2.tmps[0]? = some (.string s) := by rw [ha2, put_get_ne (by omega), put_get_ne (by omega)]; exact h10
      have h22 : a2.tmps[2]? = some (.string { data := #[] }) := by rw [ha2, put_get_ne (by omega), put_get_ne (by omega)]; exact h12
      have hs2 : a2.tmps.size = 18 := by rw [ha2, put_size, put_size]; exact hs1
      have hd2 : a2.defers = [] := by rw [ha2, put_defers, put_defers]; exact hd1
      show wpOps P _ _ [2] ((a1.put (some 4) (.string s)).put (some 5) (.int .i64 s.size)) w
      rw [← ha2] at b5 ⊢
      clear ha2
      have heq : ∃ q, (execOp a2.eval (mkO (some 6) (.binOp .eql ti (.tmp 5) (.const (.int .i64 0)) ti) tb (x 3))).run P w = .ok (.value q) w ∧ VRel ρ β (.b (intBeq (s.size : Int) 0)) q := by
        refine pure_sound (ev := fun o => match o with | .tmp 5 => .ok (.i .i64 s.size) | .const v => ofValue v | _ => .err 0) (re := a2.eval) (fun o y ho => ?_) ?_ w
        · split at ho
          · cases ho; rw [eval_tmp b5]; exact vrel_mk_i
          · exact ofValue_sound ho
          · cases ho
        · simp only [mkO, pureOp, R.bind, ofValue, cellOf, binop, okV, eqV, hta, hti, kaOk, Bool.and_self, cond_true, eqAtom]
          rfl
      obtain ⟨q, hq1, hq2⟩ := heq
      have hq3 := vrel_b hq2
      subst hq3
      refine wpOps_cons (o := mkO (some 6) (.binOp .eql ti (.tmp 5) (.const (.int .i64 0)) ti) tb (x 3)) rfl rfl (wp_value hq1 ?_)
      have b6 : (a2.put (some 6) (.bool (intBeq (s.size : Int) 0))).tmps[6]? = some (.bool (intBeq (s.size : Int) 0)) := put_get_self (by omega)
      show (Code.cond _ _ _).wp P _ (a2.put (some 6) (.bool (intBeq (s.size : Int) 0))) w
      cases hc : intBeq (s.size : Int) 0 with
      | true =>
        rw [hc] at b6
        have hs0 : s.size = 0 := by
          rw [intBeq_eq] at hc
          have := eq_of_beq hc
          omega
        have hse : s = { data := #[] } := by
          apply ByteArray.ext
          exact Array.eq_empty_of_size_eq_zero hs0
        refine wp_cond_true (eval_tmp b6) (wp_seq (wp_region ?_))
        show wpOps P _ _ [0] _ w
        refine wpOps_cons (o := mkO (some 2) (.assign (.const (.string { data := #[] }))) ts (x 4)) rfl rfl (wp_value (v := .string { data := #[] }) (w' := w) ?_ ?_)
        · simp only [execOp, mkO, Go.Act.eval, Sem.run_pure]
        refine wp_ret (fin _ w ?_ ?_ (Nat.le_refl _) (fun _ _ => rfl) rfl rfl)
        · rw [hse]; exact put_get_self (by rw [put_size]; omega)
        · simp only [put_defers]; exact hd2
      | false =>
        rw [hc] at b6
        have hs0 : s.size ≠ 0 := by
          rw [intBeq_eq] at hc
          simpa using hc
        refine wp_cond_false (eval_tmp b6) (wp_skip ?_)
        obtain ⟨a3, ha3⟩ : ∃ a3, a3 = a2.put (some 6) (.bool false) := ⟨_, rfl⟩
        have h30 : a3.tmps[0]? = some (.string s) := by rw [ha3, put_get_ne (by omega)]; exact h20
        have hs3 : a3.tmps.size = 18 := by rw [ha3, put_size]; exact hs2
        have hd3 : a3.defers = [] := by rw [ha3, put_defers]; exact hd2
        show (Code.seq _ _).wp P _ (a2.put (some 6) (.bool false)) w
        rw [← ha3]
        clear ha3 b6 b5 hq1 hq2 h22 h20
        exact clone_rest hts htl htp hte hz hsz hby (by omega) hs0 h30 hs3 fun a' w' g1 g2 g3 g4 g5 g6 => fin a' w' g1 (g2.trans hd3) g3 g4 g5 g6
    · cases e
  · simp only [hg, if_false] at e
    cases e
end Go.Dm
