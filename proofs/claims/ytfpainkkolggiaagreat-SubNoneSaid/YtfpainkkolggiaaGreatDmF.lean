/- Code and calls: what the machine comes to, the model comes to. -/
import Derived.Test.YtfpainkkolggiaaGreatDmE
import Derived.Control
namespace Go.Dm
variable {ρ : Env} {P : Program}

def exitOf : X → Exit
  | .n => .normal
  | .ret => .ret
  | .ex id => .exit id
theorem thenX_ok {x : R (X × Act)} {f : Act → R (X × Act)} {r : X × Act} (e : thenX x f = .ok r) : ∃ r₁, x = .ok r₁ ∧ ((r₁.1 = .n ∧ f r₁.2 = .ok r) ∨ (r₁.1 ≠ .n ∧ r = r₁)) := by
  unfold thenX at e
  obtain ⟨r₁, h1, h2⟩ := R.bind_ok e
  refine ⟨r₁, h1, ?_⟩
  obtain ⟨x, A⟩ := r₁
  cases x with
  | n => exact .inl ⟨rfl, h2⟩
  | ret => cases h2; exact .inr ⟨by simp, rfl⟩
  | ex id => cases h2; exact .inr ⟨by simp, rfl⟩
/-- one more round of a loop that has begun -/
def Rounds (P : Program) (c : Code) (Q : Exit → Go.Act → World → Prop) (a : Go.Act) (w : World) : Prop :=
  ∀ (b : Go.Frame) (k : List Item) (cs : List Go.Frame), ∃ e a' w', Q e a' w' ∧ Arrives P (lone (b.at a (.code c :: .inLoop c :: k)) cs w) b k cs e a' w'
theorem rounds_step {c : Code} {Q : Exit → Go.Act → World → Prop} {a : Go.Act} {w : World} (h : c.wp P (Exit.then (Rounds P c Q) Q) a w) : Rounds P c Q a w := by
  intro b k cs
  obtain ⟨e, a₁, w₁, hq, harr⟩ := h b (.inLoop c :: k) cs
  cases e with
  | normal =>
    obtain ⟨e₂, a₂, w₂, hq₂, harr₂⟩ := hq b k cs
    exact ⟨e₂, a₂, w₂, hq₂, .of_steps (Steps.trans harr (.one step_inLoop)) harr₂⟩
  | exit id => exact ⟨_, a₁, w₁, hq, .pass (x := .inLoop c) rfl (fun _ _ => .inl (by simp)) harr⟩
  | goto l => exact ⟨_, a₁, w₁, hq, .pass (x := .inLoop c) rfl (fun _ _ => .inl (by simp)) harr⟩
  | ret => exact ⟨_, a₁, w₁, hq, .pass (x := .inLoop c) rfl (fun _ _ => .inl (by simp)) harr⟩
  | panic ch => exact ⟨_, a₁, w₁, hq, .pass (x := .inLoop c) rfl (fun _ _ => .inl (by simp)) harr⟩
  | outgrown => exact ⟨_, a₁, w₁, hq, .pass (x := .inLoop c) rfl (fun _ _ => .inl (by simp)) harr⟩
theorem wp_rounds {c : Code} {Q : Exit → Go.Act → World → Prop} {a : Go.Act} {w : World} (h : Rounds P c Q a w) : (Code.loop c).wp P Q a w := by
  intro b k cs
  obtain ⟨e, a', w', hq, harr⟩ := h b k cs
  exact ⟨e, a', w', hq, .of_steps (.one step_loop) harr⟩
/-- what a piece of code comes to -/
def CodeOk (ρ : Env) (P : Program) (call : CallD) (n : Nat) (c : Code) : Prop :=
  ∀ (β : B) (w : World) (A : Act) (a : Go.Act) (r : X × Act) (Q : Exit → Go.Act → World → Prop), AOk ρ β A a w → a.tmps.size = n → codeR P call c A = .ok r → (∀ a' w', AGoes ρ β A a w r.2 a' w' → Q (exitOf r.1) a' w') → c.wp P Q a w
theorem and_ok {x y : Bool} (h : (x && y) = true) : x = true ∧ y = true := by simpa using h
theorem loop_sound {call : CallD} {n : Nat} {c : Code} (hc : CodeOk ρ P call n c) : ∀ (k : Nat) {β : B} {w : World} {A : Act} {a : Go.Act} {r : X × Act} {Q : Exit → Go.Act → World → Prop}, AOk ρ β A a w → a.tmps.size = n → loopR (codeR P call c) k A = .ok r → (∀ a' w', AGoes ρ β A a w r.2 a' w' → Q (exitOf r.1) a' w') → Rounds P c Q a w
  | 0, _, _, _, _, _, _, _, _, e, _ => by cases e
  | k + 1, β, w, A, a, r, Q, hA, hn, e, hQ => by
    simp only [loopR] at e
    obtain ⟨r₁, h1, h2⟩ := thenX_ok e
    refine rounds_step (hc _ _ _ _ _ _ hA hn h1 fun a' w' g => ?_)
    rcases h2 with ⟨h2, h3⟩ | ⟨h2, rfl⟩
    · rw [h2]
      obtain ⟨⟨β', g1, g2⟩, gs, gd⟩ := g
      refine loop_sound hc k ⟨g2, g1.rel, g1.dom⟩ (gs.trans hn) h3 fun a'' w'' g' => hQ _ _ (.trans1 hA.dom g1 gs gd g')
    · have := hQ a' w' g
      cases hr : r.1 with
      | n => exact absurd hr h2
      | ret => rw [hr] at this; exact this
      | ex id => rw [hr] at this; exact this
theorem code_sound (hm : P.follows .mixedOrders = true) {call : CallD} (hc : CallOk ρ P call) {n : Nat} : ∀ (c : Code), codeOk n c = true → CodeOk ρ P call n c
  | .skip, _ => fun _ _ _ _ _ _ hA _ e hQ => by cases e; exact wp_skip (hQ _ _ (.refl hA))
  | .label l, _ => fun _ _ _ _ _ _ hA _ e hQ => by cases e; exact wp_label (hQ _ _ (.refl hA))
  | .exit id, _ => fun _ _ _ _ _ _ hA _ e hQ => by cases e; exact wp_exit (hQ _ _ (.refl hA))
  | .ret, _ => fun _ _ _ _ _ _ hA _ e hQ => by cases e; exact wp_ret (hQ _ _ (.refl hA))
  | .region id ops draw, h => fun β w A a r Q hA hn e hQ => by
    simp only [codeOk] at h
    simp only [codeR] at e
    obtain ⟨A', h1, e⟩ := R.bind_ok e
    cases e
    subst hn
    cases draw with
    | false => exact region_sound hc h hA h1 hQ
    | true => exact draw_sound hm hc h hA h1 hQ
  | .seq x y, h => fun β w A a r Q hA hn e hQ => by
    simp only [codeOk] at h
    obtain ⟨hx, hy⟩ := and_ok h
    simp only [codeR] at e
    obtain ⟨r₁, h1, h2⟩ := thenX_ok e
    refine wp_seq (code_sound hm hc x hx _ _ _ _ _ _ hA hn h1 fun a' w' g => ?_)
    rcases h2 with ⟨h2, h3⟩ | ⟨h2, rfl⟩
    · rw [h2]
      obtain ⟨⟨β', g1, g2⟩, gs, gd⟩ := g
      exact code_sound hm hc y hy _ _ _ _ _ _ ⟨g2, g1.rel, g1.dom⟩ (gs.trans hn) h3 fun a'' w'' g' => hQ _ _ (.trans1 hA.dom g1 gs gd g')
    · have := hQ a' w' g
      cases hr : r.1 with
      | n => exact absurd hr h2
      | ret => rw [hr] at this; exact this
      | ex id => rw [hr] at this; exact this
  | .cond c x y, h => fun β w A a r Q hA hn e hQ => by
    simp only [codeOk] at h
    obtain ⟨hx, hy⟩ := and_ok h
    simp only [codeR] at e
    obtain ⟨v, hv, e⟩ := R.bind_ok e
    have hrel := evalO_sound hA.regs hv
    cases v <;> simp only [condR] at e <;> try cases e
    rename_i b
    have hb := vrel_b hrel
    refine wp_cond hb ?_
    cases b with
    | true => exact code_sound hm hc x hx _ _ _ _ _ _ hA hn e hQ
    | false => exact code_sound hm hc y hy _ _ _ _ _ _ hA hn e hQ
  | .block id x, h => fun β w A a r Q hA hn e hQ => by
    simp only [codeOk] at h
    simp only [codeR, blockX] at e
    obtain ⟨r₁, h1, e⟩ := R.bind_ok e
    refine wp_block (code_sound hm hc x h _ _ _ _ _ _ hA hn h1 fun a' w' g => ?_)
    obtain ⟨x₁, A₁⟩ := r₁
    cases x₁ with
    | n => cases e; exact hQ _ _ g
    | ret => cases e; exact hQ _ _ g
    | ex j =>
      simp only at e
      simp only [exitOf, Exit.inBlock]
      cases hb : Nat.beq j id with
      | true =>
        rw [hb] at e
        cases e
        rw [if_pos (Nat.eq_of_beq_eq_true hb)]
        exact hQ _ _ g
      | false =>
        rw [hb] at e
        cases e
        rw [if_neg (Nat.ne_of_beq_eq_false hb)]
        exact hQ _ _ g
  | .loop x, h => fun β w A a r Q hA hn e hQ => by
    simp only [codeOk] at h
    simp only [codeR] at e
    exact wp_rounds (loop_sound (code_sound hm hc x h) rounds hA hn e hQ)
  | .rangeFunc _ _ _ _, h => by simp [codeOk] at h
  | .scope _, h => by simp [codeOk] at h
  | .goto _, h => by simp [codeOk] at h

-- CALLS
theorem setArgs_get : ∀ (l : List V) (n : Nat) (t : T V) (i : Nat), (setArgs l n t).get i = if n ≤ i ∧ i < n + l.length then l[i - n]? else t.get i
  | [], n, t, i => by
    have : ¬ (n ≤ i ∧ i < n + ([] : List V).length) := by simp
    rw [if_neg this]; rfl
  | v :: l, n, t, i => by
    simp only [setArgs]
    rw [setArgs_get l]
    by_cases h1 : Nat.succ n ≤ i ∧ i < Nat.succ n + l.length
    · rw [if_pos h1, if_pos (by simp; omega)]
      rw [show i - n = (i - Nat.succ n) + 1 by omega]
      simp
    · rw [if_neg h1]
      by_cases h2 : n = i
      · subst h2
        rw [T.get_set_same _ _ _ _ (Nat.lt_succ_self _), if_pos (by simp)]
        simp
      · rw [T.get_set_ne _ _ _ _ _ h2, if_neg (by simp; omega)]
theorem run_mapM_list {α γ : Type} {w : World} {g : α → Sem γ} : ∀ {l : List α} {r : List γ}, l.length = r.length → (∀ (i : Nat) (x : α) (y : γ), l[i]? = some x → r[i]? = some y → (g x).run P w = .ok y w) → (l.mapM g).run P w = .ok r w
  | [], [], _, _ => by simp
  | [], _ :: _, h, _ => by simp at h
  | _ :: _, [], h, _ => by simp at h
  | a :: l, b :: r, h, k => by
    have h1 := k 0 a b rfl rfl
    have h2 := run_mapM_list (l := l) (r := r) (by simpa using h) fun i x y hx hy => k (i + 1) x y (by simpa using hx) (by simpa using hy)
    simp only [List.mapM_cons, Sem.run_bind, h1, h2, Result.andThen_ok, Sem.run_pure]
theorem results_sound {β : B} {w : World} {A : Act} {a : Go.Act} (hA : AOk ρ β A a w) {fn : Func} {l : List V} (e : mapR (resR P A) fn.results.toList = .ok l) :
    ∃ v, (results fn a.tmps).run P w = .ok v w ∧ VRel ρ β (tupleOf l) v := by
  have one : ∀ (r : ResultVar) (x : V), resR P A r = .ok x → ∃ v, ((match r with | .tmp t => pure (a.tmps.getD t undef) | .cell p t => do loadVar t (← asAddr (a.tmps.getD p undef)) : Sem Value)).run P w = .ok v w ∧ VRel ρ β x v := by
    intro r x e
    cases r with
    | tmp t =>
      simp only [resR] at e
      obtain ⟨v, h1, h2⟩ := hA.regs _ _ (ofOpt_ok e)
      exact ⟨v, by simp only [Array.getD_eq_getD_getElem?, h1, Option.getD_some, Sem.run_pure], h2⟩
    | cell p t =>
      simp only [resR] at e
      obtain ⟨y, hy, e⟩ := R.bind_ok e
      obtain ⟨v, h1, h2⟩ := hA.regs _ _ (ofOpt_ok hy)
      obtain ⟨⟨b, off, rfl⟩, q, h3, h4⟩ := loadV_sound hA.rel e h2
      obtain ⟨m, o, z, hb, rfl⟩ := vrel_p h2
      refine ⟨q, ?_, h4⟩
      simp only [Array.getD_eq_getD_getElem?, h1, Option.getD_some, asAddr, Sem.run_bind, Sem.run_pure, Result.andThen_ok]
      simp only [Instr.loadAt, Instr.sureAddr, Sem.run_bind, Sem.run_pure, Result.andThen_ok] at h3
      exact h3
  obtain ⟨hlen, hall⟩ := mapR_ok e
  have hvs : ∀ (rs : List ResultVar) (l : List V), l.length = rs.length → (∀ (i : Nat) r x, rs[i]? = some r → l[i]? = some x → resR P A r = .ok x) →
      ∃ vs : List Value, vs.length = rs.length ∧ VRels ρ β l vs ∧ ∀ (i : Nat) r v, rs[i]? = some r → vs[i]? = some v → ((match r with | .tmp t => pure (a.tmps.getD t undef) | .cell p t => do loadVar t (← asAddr (a.tmps.getD p undef)) : Sem Value)).run P w = .ok v w := by
    intro rs
    induction rs with
    | nil => intro l h _; cases l with
      | nil => exact ⟨[], rfl, by simp [VRels], fun i r v h => by simp at h⟩
      | cons _ _ => simp at h
    | cons r rs ih =>
      intro l h k
      cases l with
      | nil => simp at h
      | cons x l =>
        obtain ⟨vs, h1, h2, h3⟩ := ih l (by simpa using h) fun i r' x' hr hx => k (i + 1) r' x' (by simpa using hr) (by simpa using hx)
        obtain ⟨v, h4, h5⟩ := one r x (k 0 r x rfl rfl)
        refine ⟨v :: vs, by simp [h1], ?_, ?_⟩
        · simp only [VRels]; exact ⟨v, vs, rfl, h5, h2⟩
        · intro i r' v' hr hv
          cases i with
          | zero => simp at hr hv; subst hr; subst hv; exact h4
          | succ i => exact h3 i r' v' (by simpa using hr) (by simpa using hv)
  obtain ⟨vs, h1, h2, h3⟩ := hvs _ _ hlen hall
  have hrun := run_mapM_list (P := P) (w := w) h1.symm h3
  refine ⟨if h : vs.toArray.size = 1 then vs.toArray[0] else .tuple vs.toArray, ?_, ?_⟩
  · unfold results
    rw [Array.mapM_eq_mapM_toList]
    simp only [Sem.run_bind, map_eq_pure_bind, bind_assoc, pure_bind]
    refine Eq.trans (congrArg (fun r => Result.andThen r _) hrun) ?_
    simp only [Result.andThen_ok, Sem.run_pure]
  · unfold tupleOf
    split
    · simp only [VRels] at h2
      obtain ⟨v, r, rfl, h4, rfl⟩ := h2
      simp only [List.size_toArray, List.length_cons, List.length_nil, dif_pos, List.getElem_toArray, List.getElem_cons_zero]
      exact h4
    · rename_i hne
      have : ¬ vs.toArray.size = 1 := by
        intro h
        simp only [List.size_toArray] at h
        have := h2.length
        rw [h] at this
        match l, this with
        | [x], _ => exact hne x rfl
      rw [dif_neg this]
      simp only [VRel]
      exact ⟨_, rfl, by simpa using h2⟩
/-- what the summaries must be -/
def SumsOk (ρ : Env) (P : Program) (S : Sums) : Prop := ∀ f s, S f = some s → CallOk ρ P fun g args h => if g = f then s args h else .err 0
theorem call_sound (hm : P.follows .mixedOrders = true) {S : Sums} (hS : SumsOk ρ P S) : ∀ n, CallOk ρ P (callR P S n)
  | 0 => fun _ _ _ _ _ e => by cases e
  | n + 1 => by
    intro f args h x h' e
    simp only [callR] at e
    split at e
    · rename_i s hs
      have := hS f s hs f args h x h' (by simpa using e)
      exact this
    · obtain ⟨hok, e⟩ := cond_ok e
      obtain ⟨hok, hna⟩ := and_ok hok
      obtain ⟨c, hbody, e⟩ := R.bind_ok e
      obtain ⟨r, hr, e⟩ := R.bind_ok e
      unfold funcOk at hok
      unfold bodyOf at hbody
      unfold nargsOf at hna
      unfold leave resultsOf at e
      cases hf : P.funcs[f]? with
      | none => rw [hf] at hok; cases hok
      | some fn =>
        rw [hf] at hok hbody hna e
        simp only at hok hbody hna e
        have hb := ofOpt_ok hbody
        rw [hb] at hok
        simp only [Bool.and_eq_true, Bool.not_eq_true', ble_eq, decide_eq_true_eq] at hok
        obtain ⟨⟨hcode, hle⟩, hname⟩ := hok
        have hna := Nat.eq_of_beq_eq_true hna
        rw [lenN_eq, Nat.add_zero] at hna
        refine ⟨⟨fn, rfl, hname, by rw [hb]; rfl⟩, ?_⟩
        intro β w args' hrel hdom hargs
        have hal := hargs.length
        simp only [Array.length_toList] at hal
        refine calls_of_wp hf hb ?_
        have hA : AOk ρ β ⟨setArgs args 0 .e, h⟩ { tmps := args' ++ Array.replicate (fn.ntmps - args'.size) undef, defers := [] } w := by
          refine ⟨?_, hrel, hdom⟩
          intro i y hy
          rw [setArgs_get] at hy
          split at hy
          · rename_i hi
            simp only [Nat.sub_zero] at hy
            obtain ⟨v, h1, h2⟩ := hargs.get hy
            rw [Array.getElem?_toList] at h1
            refine ⟨v, ?_, h2⟩
            simp only
            rw [Array.getElem?_append_left (Array.getElem?_eq_some_iff.1 h1).1]
            exact h1
          · have : (T.e : T V).get i = none := T.get_e i
            rw [this] at hy
            cases hy
        refine code_sound hm (call_sound hm hS n) c hcode _ _ _ _ _ _ hA (by simp; omega) hr fun a' w' g => ?_
        obtain ⟨⟨β', g1, g2⟩, gs, gd⟩ := g
        obtain ⟨rx, A'⟩ := r
        have fin : ∀ {e : Exit}, e = .normal ∨ e = .ret → (mapR (resR P A') fn.results.toList).bind (fun l => R.ok (tupleOf l, A'.h)) = .ok (x, h') → bodyPost P fn (fun e w' => ∃ q, e = .returned q ∧ Acts ρ β h w x h' q w') e a' w' := by
          intro e he k
          obtain ⟨l, hl, k⟩ := R.bind_ok k
          cases k
          obtain ⟨v, h1, h2⟩ := results_sound ⟨g2, g1.rel, g1.dom⟩ hl
          rcases he with rfl | rfl
          · exact ⟨gd, v, h1, v, rfl, β', g1, h2⟩
          · exact ⟨gd, v, h1, v, rfl, β', g1, h2⟩
        cases rx with
        | n => exact fin (.inl rfl) e
        | ret => exact fin (.inr rfl) e
        | ex id => cases e
end Go.Dm
namespace Go.Dm
variable {ρ : Env} {P : Program}

mutual
def plainV : V → Bool
  | .b _ => true
  | .i _ _ => true
  | .x _ _ => true
  | .s _ => true
  | .r _ => true
  | .p0 => true
  | .sl0 => true
  | .m0 => true
  | .nf => true
  | .ni => true
  | .ag l => plains l
  | .tu l => plains l
  | _ => false
def plains : List V → Bool
  | [] => true
  | a :: l => plainV a && plains l
end
mutual
theorem plain_rel {β β' : B} : ∀ (x : V) (v : Value), plainV x = true → VRel ρ β x v → VRel ρ β' x v
  | .b _, _, _, e => by simpa [VRel] using e
  | .i _ _, _, _, e => by simpa [VRel] using e
  | .x _ _, _, _, e => by simpa [VRel] using e
  | .s _, _, _, e => by simpa [VRel] using e
  | .r _, _, _, e => by simpa [VRel] using e
  | .p0, _, _, e => by simpa [VRel] using e
  | .p _ _, _, h, _ => by simp [plainV] at h
  | .sl0, _, _, e => by simpa [VRel] using e
  | .sl _ _ _ _, _, h, _ => by simp [plainV] at h
  | .m0, _, _, e => by simpa [VRel] using e
  | .m _, _, h, _ => by simp [plainV] at h
  | .fn _ _ _, _, h, _ => by simp [plainV] at h
  | .nf, _, _, e => by simpa [VRel] using e
  | .ni, _, _, e => by simpa [VRel] using e
  | .ag cs, _, h, e => by
    simp only [plainV] at h
    simp only [VRel] at e ⊢
    obtain ⟨vs, hv, ha, h1⟩ := e
    exact ⟨vs, hv, ha, plains_rel cs _ h h1⟩
  | .tu cs, _, h, e => by
    simp only [plainV] at h
    simp only [VRel] at e ⊢
    obtain ⟨vs, hv, h1⟩ := e
    exact ⟨vs, hv, plains_rel cs _ h h1⟩
theorem plains_rel {β β' : B} : ∀ (xs : List V) (vs : List Value), plains xs = true → VRels ρ β xs vs → VRels ρ β' xs vs
  | [], _, _, e => by simpa [VRels] using e
  | x :: xs, _, h, e => by
    simp only [plains] at h
    obtain ⟨h1, h2⟩ := and_ok h
    simp only [VRels] at e ⊢
    obtain ⟨v, r, hv, e1, e2⟩ := e
    exact ⟨v, r, hv, plain_rel x v h1 e1, plains_rel xs r h2 e2⟩
end
/-- the summary -/
def closedS (call : CallD) (f : Nat) (args : List V) (h : H) : R (V × H) := bif plains args then (call f args H0).bind fun r => bif plainV r.1 then .ok (r.1, h) else .err 401 else .err 400
theorem hrel_frame {β : B} {h : H} {w w' : World} (hr : HRel ρ β h w) (hs : w.heap.size ≤ w'.heap.size) (hf : ∀ m, m < w.heap.size → w'.heap[m]? = w.heap[m]?) : HRel ρ β h w' := by
  refine ⟨?_, ?_, hr.inj, fun d m o z hb => Nat.lt_of_lt_of_le (hr.low d m o z hb) hs⟩
  · intro d m o z c hb hc
    obtain ⟨mc, el, fr, h1, hrest⟩ := hr.cells d m o z c hb hc
    exact ⟨mc, el, fr, by rw [hf m (hr.low d m o z hb)]; exact h1, hrest⟩
  · intro d m o z es hb hc
    obtain ⟨en, cl, h1, hrest⟩ := hr.maps d m o z es hb hc
    exact ⟨en, cl, by rw [hf m (hr.low d m o z hb)]; exact h1, hrest⟩
theorem closed_ok {call : CallD} (hc : CallOk ρ P call) (f : Nat) : CallOk ρ P fun g args h => if g = f then closedS call f args h else .err 0 := by
  intro g args h x h' e
  by_cases hg : g = f
  · subst hg
    simp only [if_true, closedS] at e
    obtain ⟨hp, e⟩ := cond_ok e
    obtain ⟨r, hr, e⟩ := R.bind_ok e
    obtain ⟨hq, e⟩ := cond_ok e
    cases e
    obtain ⟨x₀, h₀⟩ := r
    obtain ⟨k1, k2⟩ := hc g args H0 x₀ h₀ hr
    refine ⟨k1, fun β w args' hrel hdom hargs => ?_⟩
    have := k2 (fun _ => none) w args' (hrel_none fun d m o z hb => by cases hb) (fun d y hy => by cases hy) (plains_rel args _ hp hargs)
    refine Calls.mono this fun e w' he => ?_
    obtain ⟨q, rfl, β', g1, g2⟩ := he
    have hf : ∀ m, m < w.heap.size → w'.heap[m]? = w.heap[m]? := fun m hm => g1.frame.rest m hm fun d o z hb => by cases hb
    exact ⟨q, rfl, β, ⟨.refl β, hrel_frame hrel g1.frame.size hf, hdom, Nat.le_refl _, ⟨g1.frame.size, fun m hm _ => hf m hm, g1.frame.os, g1.frame.output⟩, fun d m o z h1 h2 => by rw [h1] at h2; cases h2⟩, plain_rel _ _ hq g2⟩
  · simp only [hg, if_false] at e
    cases e
/-- a run from an empty heap whose answer holds no address, told of the model's call, at any world -/
theorem closed_calls {call : CallD} (hc : CallOk ρ P call) {f : Nat} {args : List V} {x : V} {h' : H} (e : call f args H0 = .ok (x, h')) (hp : plains args = true) (hq : plainV x = true) {β : B} {w : World} {args' : Array Value} (hargs : VRels ρ β args args'.toList) :
    Calls P f args' w fun e w' => ∃ q, e = .returned q ∧ VRel ρ β x q ∧ w.heap.size ≤ w'.heap.size ∧ (∀ m, m < w.heap.size → w'.heap[m]? = w.heap[m]?) ∧ w'.os = w.os ∧ w'.output = w.output := by
  obtain ⟨_, k2⟩ := hc f args H0 x h' e
  have := k2 (fun _ => none) w args' (hrel_none fun d m o z hb => by cases hb) (fun d y hy => by cases hy) (plains_rel args _ hp hargs)
  refine Calls.mono this fun e w' he => ?_
  obtain ⟨q, rfl, β', g1, g2⟩ := he
  exact ⟨q, rfl, plain_rel _ _ hq g2, g1.frame.size, (fun m hm => g1.frame.rest m hm fun d o z hb => by cases hb), g1.frame.os, g1.frame.output⟩
end Go.Dm
namespace Go.Dm
variable {ρ : Env} {P : Program}

-- BLOCKS BY OTHER NUMBERS
mutual
/-- each block's number is greater by n -/
def mvV (n : Nat) : V → V
  | .p b o => .p (Nat.add n b) o
  | .sl b o l c => .sl (Nat.add n b) o l c
  | .m r => .m (Nat.add n r)
  | .fn f fs cs => .fn f (mvVs n fs) (mvVs n cs)
  | .ag l => .ag (mvVs n l)
  | .tu l => .tu (mvVs n l)
  | v => v
def mvVs (n : Nat) : List V → List V
  | [] => []
  | a :: l => mvV n a :: mvVs n l
end
def mvEs (n : Nat) : List (V × V) → List (V × V)
  | [] => []
  | e :: l => (mvV n e.1, mvV n e.2) :: mvEs n l
def mvB (n : Nat) : Blk → Blk
  | .cells c => .cells (mvVs n c)
  | .mp es => .mp (mvEs n es)
/-- the place of a number in a list -/
def idx (k : Nat) : List Nat → Nat → R Nat
  | [], _ => .err 410
  | a :: l, i => bif Nat.beq a k then .ok i else idx k l (Nat.succ i)
mutual
/-- each block is named by its place in the list -/
def rnV (ks : List Nat) : V → R V
  | .p b o => (idx b ks 0).bind fun i => .ok (.p i o)
  | .sl b o l c => (idx b ks 0).bind fun i => .ok (.sl i o l c)
  | .m r => (idx r ks 0).bind fun i => .ok (.m i)
  | .fn f fs cs => (rnVs ks fs).bind fun fs => (rnVs ks cs).bind fun cs => .ok (.fn f fs cs)
  | .ag l => (rnVs ks l).bind fun l => .ok (.ag l)
  | .tu l => (rnVs ks l).bind fun l => .ok (.tu l)
  | v => .ok v
def rnVs (ks : List Nat) : List V → R (List V)
  | [] => .ok []
  | a :: l => (rnV ks a).bind fun a => (rnVs ks l).bind fun l => .ok (a :: l)
end
def rnEs (ks : List Nat) : List (V × V) → R (List (V × V))
  | [] => .ok []
  | e :: l => (rnV ks e.1).bind fun a => (rnV ks e.2).bind fun b => (rnEs ks l).bind fun l => .ok ((a, b) :: l)
def rnB (ks : List Nat) : Blk → R Blk
  | .cells c => (rnVs ks c).bind fun c => .ok (.cells c)
  | .mp es => (rnEs ks es).bind fun es => .ok (.mp es)
def blksR (ks : List Nat) (h : H) : List Nat → R (List Blk)
  | [] => .ok []
  | k :: l => (ofOpt 411 (h.bl.get k)).bind fun b => (rnB ks b).bind fun b => (blksR ks h l).bind fun l => .ok (b :: l)
def nodupB : List Nat → Bool
  | [] => true
  | a :: l => bif has l a then false else nodupB l
/-- a call from an empty heap: its answer, and these blocks of it, by their places in the list -/
def closedR (call : CallD) (f : Nat) (args : List V) (ks : List Nat) : R (V × List Blk) :=
  (call f args H0).bind fun r => bif nodupB ks then (rnV ks r.1).bind fun x => (blksR ks r.2 ks).bind fun bs => .ok (x, bs) else .err 412
def layB (n : Nat) : List Blk → H → H
  | [], h => h
  | b :: l, h => layB n l (h.new (mvB n b))
/-- .. laid at a heap -/
def laid (r : V × List Blk) (h : H) : V × H := (mvV h.nx r.1, layB h.nx r.2 h)

theorem idx_ok {k : Nat} : ∀ {l : List Nat} {i j : Nat}, idx k l i = .ok j → ∃ p, j = i + p ∧ l[p]? = some k
  | [], _, _, h => by cases h
  | a :: l, i, j, h => by
    simp only [idx] at h
    cases hb : Nat.beq a k with
    | true =>
      rw [hb] at h
      cases h
      exact ⟨0, rfl, by simp [Nat.eq_of_beq_eq_true hb]⟩
    | false =>
      rw [hb] at h
      obtain ⟨p, h1, h2⟩ := idx_ok (l := l) h
      exact ⟨p + 1, by omega, by simpa using h2⟩
/-- what a block was there it is here -/
def Carries (β γ : B) (ks : List Nat) (n : Nat) : Prop := ∀ (i d : Nat) (y : Nat × Nat × Nat), ks[i]? = some d → β d = some y → γ (n + i) = some y
mutual
theorem rn_rel {β γ : B} {ks : List Nat} {n : Nat} (hc : Carries β γ ks n) : ∀ (x x' : V) (v : Value), rnV ks x = .ok x' → VRel ρ β x v → VRel ρ γ (mvV n x') v
  | .b _, _, _, e, h => by cases e; simpa [VRel, mvV] using h
  | .i _ _, _, _, e, h => by cases e; simpa [VRel, mvV] using h
  | .x _ _, _, _, e, h => by cases e; simpa [VRel, mvV] using h
  | .s _, _, _, e, h => by cases e; simpa [VRel, mvV] using h
  | .r _, _, _, e, h => by cases e; simpa [VRel, mvV] using h
  | .p0, _, _, e, h => by cases e; simpa [VRel, mvV] using h
  | .p b o, _, _, e, h => by
    simp only [rnV] at e
    obtain ⟨i, hi, e⟩ := R.bind_ok e
    cases e
    obtain ⟨p, rfl, hp⟩ := idx_ok hi
    simp only [VRel, mvV] at h ⊢
    obtain ⟨m, o', z, hb, hv⟩ := h
    exact ⟨m, o', z, by rw [Nat.zero_add]; exact hc p b _ hp hb, hv⟩
  | .sl0, _, _, e, h => by cases e; simpa [VRel, mvV] using h
  | .sl b o l c, _, _, e, h => by
    simp only [rnV] at e
    obtain ⟨i, hi, e⟩ := R.bind_ok e
    cases e
    obtain ⟨p, rfl, hp⟩ := idx_ok hi
    simp only [VRel, mvV] at h ⊢
    obtain ⟨m, o', z, o'', c', hb, hv⟩ := h
    exact ⟨m, o', z, o'', c', by rw [Nat.zero_add]; exact hc p b _ hp hb, hv⟩
  | .m0, _, _, e, h => by cases e; simpa [VRel, mvV] using h
  | .m r, _, _, e, h => by
    simp only [rnV] at e
    obtain ⟨i, hi, e⟩ := R.bind_ok e
    cases e
    obtain ⟨p, rfl, hp⟩ := idx_ok hi
    simp only [VRel, mvV] at h ⊢
    obtain ⟨m, o', z, hb, hv⟩ := h
    exact ⟨m, o', z, by rw [Nat.zero_add]; exact hc p r _ hp hb, hv⟩
  | .fn f fs cs, _, _, e, h => by
    simp only [rnV] at e
    obtain ⟨fs', h1, e⟩ := R.bind_ok e
    obtain ⟨cs', h2, e⟩ := R.bind_ok e
    cases e
    simp only [VRel, mvV] at h ⊢
    obtain ⟨a, b, hv, g1, g2⟩ := h
    exact ⟨a, b, hv, rns_rel hc fs fs' _ h1 g1, rns_rel hc cs cs' _ h2 g2⟩
  | .nf, _, _, e, h => by cases e; simpa [VRel, mvV] using h
  | .ni, _, _, e, h => by cases e; simpa [VRel, mvV] using h
  | .ag l, _, _, e, h => by
    simp only [rnV] at e
    obtain ⟨l', h1, e⟩ := R.bind_ok e
    cases e
    simp only [VRel, mvV] at h ⊢
    obtain ⟨a, hv, ha, g1⟩ := h
    exact ⟨a, hv, rns_atoms l l' h1 ha, rns_rel hc l l' _ h1 g1⟩
  | .tu l, _, _, e, h => by
    simp only [rnV] at e
    obtain ⟨l', h1, e⟩ := R.bind_ok e
    cases e
    simp only [VRel, mvV] at h ⊢
    obtain ⟨a, hv, g1⟩ := h
    exact ⟨a, hv, rns_rel hc l l' _ h1 g1⟩
theorem rns_rel {β γ : B} {ks : List Nat} {n : Nat} (hc : Carries β γ ks n) : ∀ (xs xs' : List V) (vs : List Value), rnVs ks xs = .ok xs' → VRels ρ β xs vs → VRels ρ γ (mvVs n xs') vs
  | [], _, _, e, h => by cases e; simpa [VRels, mvVs] using h
  | x :: xs, _, _, e, h => by
    simp only [rnVs] at e
    obtain ⟨x', h1, e⟩ := R.bind_ok e
    obtain ⟨xs', h2, e⟩ := R.bind_ok e
    cases e
    simp only [VRels, mvVs] at h ⊢
    obtain ⟨v, r, hv, g1, g2⟩ := h
    exact ⟨v, r, hv, rn_rel hc x x' v h1 g1, rns_rel hc xs xs' r h2 g2⟩
theorem rns_atoms {ks : List Nat} {n : Nat} : ∀ (xs xs' : List V), rnVs ks xs = .ok xs' → atoms xs = true → atoms (mvVs n xs') = true
  | [], _, e, h => by cases e; rfl
  | x :: xs, _, e, h => by
    simp only [rnVs] at e
    obtain ⟨x', h1, e⟩ := R.bind_ok e
    obtain ⟨xs', h2, e⟩ := R.bind_ok e
    cases e
    simp only [atoms, List.all_cons, Bool.and_eq_true] at h
    have ih := rns_atoms (n := n) xs xs' h2 h.2
    simp only [mvVs, atoms, List.all_cons, Bool.and_eq_true]
    refine ⟨?_, ih⟩
    cases x <;> simp only [rnV] at h1
    all_goals first
      | (cases h1; rfl)
      | (obtain ⟨_, _, h1⟩ := R.bind_ok h1; cases h1; rfl)
      | (obtain ⟨_, _, h1⟩ := R.bind_ok h1; obtain ⟨_, _, h1⟩ := R.bind_ok h1; cases h1; rfl)
      | (exact absurd h.1 (by simp [atom]))
end
theorem rns_length {ks : List Nat} {n : Nat} : ∀ {xs xs' : List V}, rnVs ks xs = .ok xs' → (mvVs n xs').length = xs.length
  | [], _, e => by cases e; rfl
  | x :: xs, _, e => by
    simp only [rnVs] at e
    obtain ⟨x', h1, e⟩ := R.bind_ok e
    obtain ⟨xs', h2, e⟩ := R.bind_ok e
    cases e
    simp [mvVs, rns_length (n := n) h2]
theorem rnEs_rel {β γ : B} {ks : List Nat} {n : Nat} (hc : Carries β γ ks n) : ∀ {es es' : List (V × V)} {l : List MapEntry}, rnEs ks es = .ok es' → VRels ρ β (es.map (·.1)) (l.map (·.key)) → VRels ρ β (es.map (·.2)) (l.map (·.val)) →
    VRels ρ γ ((mvEs n es').map (·.1)) (l.map (·.key)) ∧ VRels ρ γ ((mvEs n es').map (·.2)) (l.map (·.val))
  | [], _, l, e, h1, h2 => by cases e; exact ⟨by simpa [VRels, mvEs] using h1, by simpa [VRels, mvEs] using h2⟩
  | e₀ :: es, _, l, e, h1, h2 => by
    simp only [rnEs] at e
    obtain ⟨a, g1, e⟩ := R.bind_ok e
    obtain ⟨b, g2, e⟩ := R.bind_ok e
    obtain ⟨es', g3, e⟩ := R.bind_ok e
    cases e
    cases l with
    | nil => simp [VRels] at h1
    | cons c l =>
      simp only [List.map_cons, VRels, mvEs] at h1 h2 ⊢
      obtain ⟨v, r, hv, k1, k2⟩ := h1
      obtain ⟨u, q, hu, k3, k4⟩ := h2
      cases hv
      cases hu
      obtain ⟨i1, i2⟩ := rnEs_rel hc g3 k2 k4
      exact ⟨⟨_, _, rfl, rn_rel hc _ _ _ g1 k1, i1⟩, ⟨_, _, rfl, rn_rel hc _ _ _ g2 k3, i2⟩⟩
theorem layB_nx (n : Nat) : ∀ (l : List Blk) (h : H), (layB n l h).nx = h.nx + l.length
  | [], h => rfl
  | b :: l, h => by
    simp only [layB]
    rw [layB_nx n l]
    simp only [H.new, List.length_cons]
    omega
theorem layB_get (n : Nat) : ∀ (l : List Blk) (h : H) (d : Nat), (layB n l h).bl.get d = if h.nx ≤ d ∧ d < h.nx + l.length then (l[d - h.nx]?).map (mvB n) else h.bl.get d
  | [], h, d => by
    have : ¬ (h.nx ≤ d ∧ d < h.nx + ([] : List Blk).length) := by simp
    rw [if_neg this]
    rfl
  | b :: l, h, d => by
    simp only [layB]
    rw [layB_get n l]
    have hnx : (h.new (mvB n b)).nx = h.nx + 1 := rfl
    rw [hnx]
    by_cases e : d = h.nx
    · subst e
      rw [if_neg (by omega), if_pos (by simp), new_get_self]
      simp
    · rw [new_get_ne _ _ e]
      by_cases hd : h.nx ≤ d ∧ d < h.nx + (b :: l).length
      · rw [if_pos hd, if_pos (by simp at hd; omega)]
        rw [show d - h.nx = (d - (h.nx + 1)) + 1 by omega]
        simp
      · rw [if_neg hd, if_neg (by simp at hd; omega)]
theorem blksR_ok {ks : List Nat} {h : H} : ∀ {l : List Nat} {bs : List Blk}, blksR ks h l = .ok bs → bs.length = l.length ∧ ∀ (i k : Nat), l[i]? = some k → ∃ b b', h.bl.get k = some b ∧ rnB ks b = .ok b' ∧ bs[i]? = some b'
  | [], _, e => by cases e; exact ⟨rfl, fun i k h => by simp at h⟩
  | k :: l, _, e => by
    simp only [blksR] at e
    obtain ⟨b, h1, e⟩ := R.bind_ok e
    obtain ⟨b', h2, e⟩ := R.bind_ok e
    obtain ⟨bs, h3, e⟩ := R.bind_ok e
    cases e
    obtain ⟨g1, g2⟩ := blksR_ok h3
    refine ⟨by simp [g1], fun i k' hi => ?_⟩
    cases i with
    | zero => simp at hi; subst hi; exact ⟨b, b', ofOpt_ok h1, h2, rfl⟩
    | succ i =>
      obtain ⟨b₁, b₂, k1, k2, k3⟩ := g2 i k' (by simpa using hi)
      exact ⟨b₁, b₂, k1, k2, by simpa using k3⟩
theorem nodupB_ok : ∀ {l : List Nat}, nodupB l = true → ∀ (i j k : Nat), l[i]? = some k → l[j]? = some k → i = j
  | [], _, i, _, _, h, _ => by simp at h
  | a :: l, e, i, j, k, hi, hj => by
    simp only [nodupB] at e
    cases hb : has l a with
    | true => rw [hb] at e; cases e
    | false =>
      rw [hb] at e
      have hn : a ∉ l := fun h => by rw [has_iff.2 h] at hb; cases hb
      cases i with
      | zero =>
        simp at hi
        subst hi
        cases j with
        | zero => rfl
        | succ j => simp at hj; exact absurd (List.mem_of_getElem? hj) hn
      | succ i =>
        simp at hi
        cases j with
        | zero => simp at hj; subst hj; exact absurd (List.mem_of_getElem? hi) hn
        | succ j => simp at hj; rw [nodupB_ok e i j k hi hj]
/-- a summary that answers what closed calls answered -/
theorem memo_ok {call : CallD} (hc : CallOk ρ P call) (f : Nat) (s : List V → H → R (V × H)) (hs : ∀ args h r, s args h = .ok r → plains args = true ∧ ∃ ks q, closedR call f args ks = .ok q ∧ r = laid q h) :
    CallOk ρ P fun g args h => if g = f then s args h else .err 0 := by
  intro g args h x h' e
  by_cases hg : g = f
  · subst hg
    simp only [if_true] at e
    obtain ⟨hp, ks, ⟨x₁, bs⟩, hq, hr⟩ := hs _ _ _ e
    unfold laid at hr
    cases hr
    unfold closedR at hq
    obtain ⟨⟨x₀, h₀⟩, hrun, hq⟩ := R.bind_ok hq
    obtain ⟨hnd, hq⟩ := cond_ok hq
    obtain ⟨x₂, hx, hq⟩ := R.bind_ok hq
    obtain ⟨bs', hbs, hq⟩ := R.bind_ok hq
    cases hq
    obtain ⟨k1, k2⟩ := hc g args H0 x₀ h₀ hrun
    refine ⟨k1, fun β w args' hrel hdom hargs => ?_⟩
    have := k2 (fun _ => none) w args' (hrel_none fun d m o z hb => by cases hb) (fun d y hy => by cases hy) (plains_rel args _ hp hargs)
    refine Calls.mono this fun e w' he => ?_
    obtain ⟨q, rfl, β', g1, g2⟩ := he
    obtain ⟨hlen, hblk⟩ := blksR_ok hbs
    have hf : ∀ m, m < w.heap.size → w'.heap[m]? = w.heap[m]? := fun m hm => g1.frame.rest m hm fun d o z hb => by cases hb
    have hfresh : ∀ d m o z, β' d = some (m, o, z) → w.heap.size ≤ m := fun d m o z hb => by
      rcases (g1.fresh d m o z rfl hb).2 with h | ⟨_, _, _, h⟩
      · exact h
      · cases h
    let γ : B := fun d => if d < h.nx then β d else (ks[d - h.nx]?).bind β'
    have lo : ∀ {d}, d < h.nx → γ d = β d := fun hd => if_pos hd
    have hi : ∀ {d}, ¬ d < h.nx → γ d = (ks[d - h.nx]?).bind β' := fun hd => if_neg hd
    have hcar : Carries β' γ ks h.nx := by
      intro i d y hi' hb
      rw [hi (by omega), show h.nx + i - h.nx = i by omega, hi']
      exact hb
    have back : ∀ {d x}, ¬ d < h.nx → γ d = some x → ∃ k, ks[d - h.nx]? = some k ∧ β' k = some x ∧ d < h.nx + ks.length := by
      intro d x hd hx'
      rw [hi hd] at hx'
      cases hk : ks[d - h.nx]? with
      | none => rw [hk] at hx'; cases hx'
      | some k =>
        rw [hk] at hx'
        have := (List.getElem?_eq_some_iff.1 hk).1
        exact ⟨k, rfl, hx', by omega⟩
    have get_lo : ∀ {d}, d < h.nx → (layB h.nx bs h).bl.get d = h.bl.get d := fun hd => by rw [layB_get, if_neg (by omega)]
    have get_hi : ∀ {d k}, ¬ d < h.nx → ks[d - h.nx]? = some k → ∃ b b', h₀.bl.get k = some b ∧ rnB ks b = .ok b' ∧ (layB h.nx bs h).bl.get d = some (mvB h.nx b') := by
      intro d k hd hk
      obtain ⟨b, b', j1, j2, j3⟩ := hblk _ _ hk
      have := (List.getElem?_eq_some_iff.1 hk).1
      refine ⟨b, b', j1, j2, ?_⟩
      rw [layB_get, if_pos (by omega), j3]
      rfl
    have hle : β.le γ := fun d y hd => by rw [lo (hdom d y hd)]; exact hd
    refine ⟨q, rfl, γ, ⟨hle, ⟨?_, ?_, ?_, ?_⟩, ?_, ?_, ⟨g1.frame.size, fun m hm _ => hf m hm, g1.frame.os, g1.frame.output⟩, ?_⟩, rn_rel hcar _ _ _ hx g2⟩
    · intro d m o z c hb hc'
      by_cases hd : d < h.nx
      · rw [lo hd] at hb
        rw [get_lo hd] at hc'
        obtain ⟨mc, el, fr, h1, h2, h3, h4, h5, h6⟩ := hrel.cells d m o z c hb hc'
        exact ⟨mc, el, fr, by rw [hf m (hrel.low d m o z hb)]; exact h1, h2, h3, h4, h5, VRels.mono hle _ _ h6⟩
      · obtain ⟨k, hk, hb', _⟩ := back hd hb
        obtain ⟨b, b', j1, j2, j3⟩ := get_hi hd hk
        rw [j3] at hc'
        cases b with
        | mp es => obtain ⟨es', _, j2⟩ := R.bind_ok j2; cases j2; cases hc'
        | cells c₀ =>
          obtain ⟨c₁, j4, j2⟩ := R.bind_ok j2
          cases j2
          cases hc'
          obtain ⟨mc, el, fr, h1, h2, h3, h4, h5, h6⟩ := g1.rel.cells k m o z c₀ hb' j1
          have hl := rns_length (n := h.nx) j4
          exact ⟨mc, el, fr, h1, h2, h3, by rw [hl]; exact h4, rns_atoms (ρ := ρ) _ _ j4 h5, by rw [hl]; exact rns_rel hcar _ _ _ j4 h6⟩
    · intro d m o z es hb hc'
      by_cases hd : d < h.nx
      · rw [lo hd] at hb
        rw [get_lo hd] at hc'
        obtain ⟨en, cl, h1, h2⟩ := hrel.maps d m o z es hb hc'
        exact ⟨en, cl, by rw [hf m (hrel.low d m o z hb)]; exact h1, h2.mono hle⟩
      · obtain ⟨k, hk, hb', _⟩ := back hd hb
        obtain ⟨b, b', j1, j2, j3⟩ := get_hi hd hk
        rw [j3] at hc'
        cases b with
        | cells c₀ => obtain ⟨c₁, _, j2⟩ := R.bind_ok j2; cases j2; cases hc'
        | mp es₀ =>
          obtain ⟨es₁, j4, j2⟩ := R.bind_ok j2
          cases j2
          cases hc'
          obtain ⟨en, cl, h1, ⟨l, hpm, h2, h3⟩, hst⟩ := g1.rel.maps k m o z es₀ hb' j1
          obtain ⟨i1, i2⟩ := rnEs_rel hcar j4 h2 h3
          exact ⟨en, cl, h1, ⟨l, hpm, i1, i2⟩, hst⟩
    · intro d d' m o z o' z' hb hb' hs hs'
      by_cases hd : d < h.nx
      · rw [lo hd] at hb
        rw [get_lo hd] at hs
        have hm := hrel.low d m o z hb
        by_cases hd' : d' < h.nx
        · rw [lo hd'] at hb'
          rw [get_lo hd'] at hs'
          exact hrel.inj d d' m o z o' z' hb hb' hs hs'
        · obtain ⟨k, _, hb'', _⟩ := back hd' hb'
          have := hfresh k m o' z' hb''
          omega
      · obtain ⟨k, hk, hb₁, _⟩ := back hd hb
        have hm := hfresh k m o z hb₁
        by_cases hd' : d' < h.nx
        · rw [lo hd'] at hb'
          have := hrel.low d' m o' z' hb'
          omega
        · obtain ⟨k', hk', hb₂, _⟩ := back hd' hb'
          obtain ⟨b, _, j1, _⟩ := get_hi hd hk
          obtain ⟨b₂, _, j2, _⟩ := get_hi hd' hk'
          have := g1.rel.inj k k' m o z o' z' hb₁ hb₂ (by rw [j1]; rfl) (by rw [j2]; rfl)
          subst this
          have := nodupB_ok hnd _ _ _ hk hk'
          omega
    · intro d m o z hb
      by_cases hd : d < h.nx
      · rw [lo hd] at hb
        exact Nat.lt_of_lt_of_le (hrel.low d m o z hb) g1.frame.size
      · obtain ⟨k, _, hb', _⟩ := back hd hb
        exact g1.rel.low k m o z hb'
    · intro d y hy
      rw [layB_nx, hlen]
      by_cases hd : d < h.nx
      · omega
      · obtain ⟨_, _, _, h4⟩ := back hd hy
        exact h4
    · rw [layB_nx]; omega
    · intro d m o z h1 h2
      by_cases hd : d < h.nx
      · rw [lo hd, h1] at h2; cases h2
      · obtain ⟨k, _, hb', _⟩ := back hd h2
        exact ⟨by omega, .inl (hfresh k m o z hb')⟩
  · simp only [hg, if_false] at e
    cases e
end Go.Dm
