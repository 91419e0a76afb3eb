/- Lists side by side, one of them in another order. -/
import Derived.Test.YtfpainkkolggiaaGreatDmD
namespace Go.Dm
/-- side by side -/
def Al {α γ : Type} (R : α → γ → Prop) : List α → List γ → Prop
  | [], l => l = []
  | a :: as, l => ∃ c cs, l = c :: cs ∧ R a c ∧ Al R as cs
theorem Al.perm {α γ : Type} {R : α → γ → Prop} {as bs : List α} (h : as.Perm bs) : ∀ {l : List γ}, Al R as l → ∃ l', l.Perm l' ∧ Al R bs l' := by
  induction h with
  | nil => intro l h; exact ⟨l, List.Perm.refl _, h⟩
  | cons a _ ih =>
    intro l h
    obtain ⟨c, cs, rfl, h1, h2⟩ := h
    obtain ⟨l', h3, h4⟩ := ih h2
    exact ⟨c :: l', h3.cons _, c, l', rfl, h1, h4⟩
  | swap a b as =>
    intro l h
    obtain ⟨c, cs, rfl, h1, d, ds, rfl, h2, h3⟩ := h
    exact ⟨d :: c :: ds, List.Perm.swap _ _ _, d, _, rfl, h2, c, ds, rfl, h1, h3⟩
  | trans _ _ ih1 ih2 =>
    intro l h
    obtain ⟨l₁, h1, h2⟩ := ih1 h
    obtain ⟨l₂, h3, h4⟩ := ih2 h2
    exact ⟨l₂, h1.trans h3, h4⟩
theorem perm_of_mem {as bs : List Nat} (ha : as.Nodup) (hb : bs.Nodup) (h : ∀ k, k ∈ as ↔ k ∈ bs) : as.Perm bs := by
  rw [List.perm_iff_count]
  intro k
  by_cases hk : k ∈ as
  · rw [List.Nodup.count ha, List.Nodup.count hb, if_pos hk, if_pos ((h k).1 hk)]
  · rw [List.Nodup.count ha, List.Nodup.count hb, if_neg hk, if_neg fun hb => hk ((h k).2 hb)]
end Go.Dm
namespace Go.Dm
variable {ρ : Env} {P : Program}
theorem Al.snoc {α γ : Type} {R : α → γ → Prop} {a : α} {c : γ} (h : R a c) : ∀ {as : List α} {cs : List γ}, Al R as cs → Al R (as ++ [a]) (cs ++ [c])
  | [], cs, e => by
    have : cs = [] := e
    subst this
    exact ⟨c, [], rfl, h, rfl⟩
  | b :: as, cs, e => by
    obtain ⟨d, ds, rfl, h1, h2⟩ := e
    exact ⟨d, ds ++ [c], rfl, h1, Al.snoc h h2⟩
theorem Al.mem_left {α γ : Type} {R : α → γ → Prop} : ∀ {as : List α} {cs : List γ}, Al R as cs → ∀ {a : α}, a ∈ as → ∃ c ∈ cs, R a c
  | [], _, _, _, h => by cases h
  | b :: as, cs, e, a, h => by
    obtain ⟨d, ds, rfl, h1, h2⟩ := e
    rcases List.mem_cons.1 h with rfl | h
    · exact ⟨d, List.mem_cons_self, h1⟩
    · obtain ⟨c, hc, hr⟩ := Al.mem_left h2 h
      exact ⟨c, List.mem_cons_of_mem _ hc, hr⟩
theorem newKey_ok {kt : Nat} {k : V} : ∀ {es : List (V × V)}, newKey P kt k es = .ok () → ∀ e ∈ es, eqV P kt k e.1 = .ok false ∧ eqV P kt e.1 k = .ok false
  | [], _, _, h => by cases h
  | e :: es, h, x, hx => by
    simp only [newKey] at h
    obtain ⟨r, hr, h⟩ := R.bind_ok h
    obtain ⟨q, hq, h⟩ := R.bind_ok h
    cases r <;> cases q <;> simp only [Bool.or_true, Bool.or_false, cond_true, cond_false] at h <;> try cases h
    rcases List.mem_cons.1 hx with rfl | hx
    · exact ⟨hr, hq⟩
    · exact newKey_ok h x hx
section
variable {call : CallD} {ops : Array Oper} {ms : List Nat} {L : List (Nat × Nat)} {st : Nat → Act} {ss : Nat → List H} (D : Dr P call ops ms L st ss)
include D
theorem Dr.maker_of {r d : Nat} {x y : V} (h : EntryAt ops L st r d x y) : ∃ (q : Nat) (y' z : Nat × Nat) (o o' : Oper) (ty : Nat), q < r ∧ (st q).h.nx = d ∧ (st (q + 1)).h = (st q).h.new (.mp []) ∧ (∀ (k : Nat) (z : Nat × Nat) (oz : Oper), q ≤ k → k < r → L[k]? = some z → ops[z.1]? = some oz → cls oz.op P ≠ 3) ∧
    L[q]? = some y' ∧ L[r]? = some z ∧ ops[z.1]? = some o ∧ ops[y'.1]? = some o' ∧ (∃ s kk vv, o.op = .insert ty s kk vv) ∧ (∃ mr, o'.op = .makeMap ty mr) ∧ Nat.testBit (maskAt ms z.1) y'.1 = true := by
  obtain ⟨z, o, ty, s, kk, vv, hz, ho, e1, _, e2, _⟩ := h
  have hrl : r < L.length := (List.getElem?_eq_some_iff.1 hz).1
  obtain ⟨ty', t, q, y', o', g1, g2, g3, g4, g5, g6, g7⟩ := D.maker r z o hz ho (by rw [e1]; rfl)
  rw [e1] at g1
  have hs : s = .tmp t ∧ ty' = ty := by
    simp only [mapTmp] at g1
    cases s <;> simp only at g1 <;> cases g1
    exact ⟨rfl, rfl⟩
  obtain ⟨rfl, rfl⟩ := hs
  have hget := ofOpt_ok e2
  rw [D.wrote g3 g4 g6 g2 (by omega)] at hget
  obtain ⟨o'', ho'', ⟨v, ht, hst⟩, _⟩ := D.step q y' g3
  rw [g4] at ho''
  cases ho''
  rw [ht, g6] at hget
  simp only [Act.put] at hget
  rw [T.get_set_same _ _ _ _ (Nat.lt_succ_self _)] at hget
  cases hget
  obtain ⟨mr, hmk⟩ := g5
  have hc : cls o'.op P = 2 := by rw [hmk]; rfl
  have hmask : Nat.testBit (maskAt ms z.1) y'.1 = true := by
    rcases D.reads z.1 o ho y'.1 o' t g4 g6 (.inl (opTmps_mem (by rw [e1]; simp [Op.operands]))) with h | h
    · exact h
    · obtain ⟨k, zz, k1, k2, k3⟩ := D.before q y' g3 _ h
      have := D.once _ _ _ _ k2 hz k3
      omega
  rcases hst with ⟨_, hv, _⟩ | ⟨_, hst⟩
  · cases hv
  · rcases hst with ⟨hc', _⟩ | ⟨hc', _⟩ | ⟨_, b, hal, hh⟩ | ⟨hc', _⟩ | ⟨hc', _⟩
    · omega
    · omega
    · rw [hmk] at hal
      simp only [allocOp] at hal
      cases mr with
      | none =>
        cases hal
        exact ⟨q, y', z, o, o', ty', g2, rfl, hh, g7, g3, hz, ho, g4, ⟨_, _, _, e1⟩, ⟨_, hmk⟩, hmask⟩
      | some _ => cases hal
    · omega
    · omega
/-- a block is made once -/
theorem Dr.made_once {q q' : Nat} {d : Nat} {b b' : Blk} (hq : q < L.length) (hq' : q' < L.length) (h : (st q).h.nx = d) (hm : (st (q + 1)).h = (st q).h.new b) (h' : (st q').h.nx = d) (hm' : (st (q' + 1)).h = (st q').h.new b') : q = q' := by
  have e : (st (q + 1)).h.nx = d + 1 := by rw [hm]; exact congrArg (· + 1) h
  have e' : (st (q' + 1)).h.nx = d + 1 := by rw [hm']; exact congrArg (· + 1) h'
  rcases Nat.lt_trichotomy q q' with k | k | k
  · have := D.nx_mono (m := q + 1) (m' := q') (by omega) (by omega)
    omega
  · exact k
  · have := D.nx_mono (m := q' + 1) (m' := q) (by omega) (by omega)
    omega
theorem Dr.entries {q b : Nat} (hb : (st q).h.nx = b) (hmk : (st (q + 1)).h = (st q).h.new (.mp [])) : ∀ {m : Nat}, q + 1 ≤ m → m ≤ L.length → (∀ (r : Nat) (x : Nat × Nat) (o : Oper), q + 1 ≤ r → r < m → L[r]? = some x → ops[x.1]? = some o → cls o.op P ≠ 3) →
    ∃ ks es, (st m).h.bl.get b = some (.mp es) ∧ ks.Nodup ∧ (∀ k, k ∈ ks ↔ (q < k ∧ k < m ∧ ∃ x y, EntryAt ops L st k b x y)) ∧ Al (fun k (e : V × V) => EntryAt ops L st k b e.1 e.2) ks es := by
  intro m
  induction m with
  | zero => intro h; omega
  | succ m ih =>
    intro h hl hno
    by_cases he : q = m
    · subst he
      refine ⟨[], [], by rw [hmk, ← hb]; exact new_get_self _ _, List.nodup_nil, fun k => ⟨fun hk => (by cases hk), fun hk => (by omega)⟩, rfl⟩
    · have hx : L[m]? = some (L[m]'(by omega)) := List.getElem?_eq_getElem (by omega)
      generalize L[m]'(by omega) = z at hx
      obtain ⟨ks, es, h1, h2, h3, h4⟩ := ih (by omega) (by omega) fun r x o a b => hno r x o a (by omega)
      obtain ⟨o, ho, ⟨v, ht, hs⟩, _⟩ := D.step m z hx
      have hbm : b < (st m).h.nx := by
        have := D.nx_mono (m := q + 1) (m' := m) (by omega) (by omega)
        rw [hmk] at this
        have : (st q).h.nx + 1 ≤ (st m).h.nx := this
        omega
      -- no entry here
      have skip : (st (m + 1)).h.bl.get b = (st m).h.bl.get b → (∀ x y, ¬ EntryAt ops L st m b x y) → ∃ ks es, (st (m + 1)).h.bl.get b = some (.mp es) ∧ ks.Nodup ∧ (∀ k, k ∈ ks ↔ (q < k ∧ k < m + 1 ∧ ∃ x y, EntryAt ops L st k b x y)) ∧ Al (fun k (e : V × V) => EntryAt ops L st k b e.1 e.2) ks es := by
        intro hg hne
        refine ⟨ks, es, by rw [hg]; exact h1, h2, fun k => ?_, h4⟩
        rw [h3 k]
        constructor
        · rintro ⟨a1, a2, a3⟩
          exact ⟨a1, by omega, a3⟩
        · rintro ⟨a1, a2, x, y, a3⟩
          refine ⟨a1, ?_, x, y, a3⟩
          by_cases hk : k = m
          · subst hk; exact absurd a3 (hne x y)
          · omega
      -- an entry is made by a wanted operation of its class
      have isE : ∀ x y, EntryAt ops L st m b x y → wantedR ops.toList (st m).t o = .ok true ∧ ∃ ty s kk vv, o.op = .insert ty s kk vv ∧ evalO (st m).t s = .ok (.m b) := by
        rintro x y ⟨z', o', ty, s, kk, vv, e1, e2, e3, e4, e5, _⟩
        rw [hx] at e1
        cases e1
        rw [ho] at e2
        cases e2
        exact ⟨e4, ty, s, kk, vv, e3, e5⟩
      have hcls : ∀ x y, EntryAt ops L st m b x y → cls o.op P = 4 := by
        intro x y hE
        obtain ⟨_, ty, s, kk, vv, e, _⟩ := isE x y hE
        rw [e]; rfl
      rcases hs with ⟨hw, _, hh⟩ | ⟨hw, hs⟩
      · refine skip (by rw [hh]) fun x y hE => ?_
        have := (isE x y hE).1
        rw [hw] at this
        cases this
      · rcases hs with ⟨hc, _, hh⟩ | ⟨hc, _, hh, _⟩ | ⟨hc, b', _, hh⟩ | ⟨hc, _⟩ | ⟨hc, _, hi⟩
        · exact skip (by rw [hh]) fun x y hE => by have := hcls x y hE; omega
        · exact skip (by rw [hh]) fun x y hE => by have := hcls x y hE; omega
        · exact skip (by rw [hh]; exact new_get_ne _ _ (by omega)) fun x y hE => by have := hcls x y hE; omega
        · exact absurd hc (hno m z o (by omega) (by omega) hx ho)
        · obtain ⟨ty, s, kk, vv, bb, x, y, mm, es', e1, e2, e3, e4, _, _, _, e5, _, e6⟩ := insR_ok hi
          by_cases hbb : bb = b
          · subst hbb
            have hes := map_ok e5
            rw [h1] at hes
            cases hes
            have hE : EntryAt ops L st m bb x y := ⟨z, o, ty, s, kk, vv, hx, ho, e1, hw, e2, e3, e4⟩
            refine ⟨ks ++ [m], es ++ [(x, y)], ?_, ?_, ?_, Al.snoc (R := fun k (e : V × V) => EntryAt ops L st k bb e.1 e.2) hE h4⟩
            · rw [e6, app_eq]
              simp only [H.put]
              exact T.get_set_same _ _ _ _ (Nat.lt_succ_self _)
            · rw [List.nodup_append]
              refine ⟨h2, by simp, fun a ha c hc => ?_⟩
              have := ((h3 a).1 ha).2.1
              simp at hc
              omega
            · intro k
              rw [List.mem_append, h3 k]
              constructor
              · rintro (⟨a1, a2, a3⟩ | hk)
                · exact ⟨a1, by omega, a3⟩
                · simp at hk
                  subst hk
                  exact ⟨by omega, by omega, x, y, hE⟩
              · rintro ⟨a1, a2, a3⟩
                by_cases hk : k = m
                · exact .inr (by simp [hk])
                · exact .inl ⟨a1, by omega, a3⟩
          · refine skip ?_ fun x' y' hE => ?_
            · rw [e6]
              simp only [H.put]
              exact T.get_set_ne _ _ _ _ _ hbb
            · obtain ⟨_, ty', s', kk', vv', e7, e8⟩ := isE x' y' hE
              rw [e1] at e7
              cases e7
              rw [e2] at e8
              cases e8
              exact hbb rfl
theorem Dr.entry_lt {k d : Nat} {x y : V} (h : EntryAt ops L st k d x y) : k < L.length := by
  have _ := D.once
  obtain ⟨z, _, _, _, _, _, hz, _⟩ := h
  exact (List.getElem?_eq_some_iff.1 hz).1
omit D in
theorem entry_one {k b : Nat} {x y x' y' : V} (h : EntryAt ops L st k b x y) (h' : EntryAt ops L st k b x' y') : x = x' ∧ y = y' := by
  obtain ⟨z, o, ty, s, kk, vv, e1, e2, e3, _, _, e6, e7⟩ := h
  obtain ⟨z', o', ty', s', kk', vv', g1, g2, g3, _, _, g6, g7⟩ := h'
  rw [e1] at g1; cases g1
  rw [e2] at g2; cases g2
  rw [e3] at g3; cases g3
  rw [e6] at g6; cases g6
  rw [e7] at g7; cases g7
  exact ⟨rfl, rfl⟩
/-- what was looked at when the entry was made -/
theorem Dr.entry_new {k d ty : Nat} {x y : V} {z : Nat × Nat} {o : Oper} (h : EntryAt ops L st k d x y) (hz : L[k]? = some z) (ho : ops[z.1]? = some o) {s kk vv : Operand} (hop : o.op = .insert ty s kk vv) :
    ∃ m, tMap P ty = .ok m ∧ keyKd P m.1 = true ∧ kaOf P m.1 x = true ∧ ∀ k' x' y', k' < k → EntryAt ops L st k' d x' y' → eqV P m.1 x x' = .ok false ∧ eqV P m.1 x' x = .ok false := by
  have hkl := D.entry_lt h
  obtain ⟨q, y₁, z₁, o₁, o₂, ty₁, g1, g2, g3, g4, _⟩ := D.maker_of h
  obtain ⟨z', o', ty', s', kk', vv', e1, e2, e3, e4, e5, e6, e7⟩ := h
  rw [hz] at e1; cases e1
  rw [ho] at e2; cases e2
  rw [hop] at e3; cases e3
  obtain ⟨o'', ho'', ⟨v, _, hs⟩, _⟩ := D.step k z hz
  rw [ho] at ho''; cases ho''
  have hc : cls o.op P = 4 := by rw [hop]; rfl
  rcases hs with ⟨hw, _⟩ | ⟨_, hs⟩
  · rw [e4] at hw; cases hw
  · rcases hs with ⟨hc', _⟩ | ⟨hc', _⟩ | ⟨hc', _⟩ | ⟨hc', _⟩ | ⟨_, _, hi⟩
    · omega
    · omega
    · omega
    · omega
    · obtain ⟨ty', s', k', v', b, x', y', m, es, i1, i2, i3, i4, i5, i6, i7, i8, i9, _⟩ := insR_ok hi
      rw [hop] at i1; cases i1
      rw [e5] at i2; cases i2
      rw [e6] at i3; cases i3
      refine ⟨m, i5, i6, i7, fun k' x' y' hk' hE => ?_⟩
      obtain ⟨ks, es', j1, _, j3, j4⟩ := D.entries g2 g3 (m := k) (by omega) (by omega) fun r x o a b c d => g4 r x o (by omega) b c d
      have hes := map_ok i8
      rw [j1] at hes
      cases hes
      have hkm : k' ∈ ks := by
        refine (j3 k').2 ⟨?_, hk', x', y', hE⟩
        obtain ⟨q', _, _, _, _, _, f1, f2, f3, _⟩ := D.maker_of hE
        have := D.made_once (by omega) (by omega) g2 g3 f2 f3
        omega
      obtain ⟨e, he, hE'⟩ := Al.mem_left j4 hkm
      obtain ⟨rfl, rfl⟩ := entry_one hE hE'
      exact newKey_ok i9 _ he
end
end Go.Dm
namespace Go.Dm
variable {ρ : Env} {P : Program}

-- ONLY THE BLOCKS BELOW A NUMBER
def B.cut (β : B) (n : Nat) : B := fun d => if d < n then β d else none
theorem cut_le (β : B) (n : Nat) : (β.cut n).le β := fun d x h => by
  unfold B.cut at h
  split at h
  · exact h
  · cases h
theorem cut_some {β : B} {n d : Nat} {x : Nat × Nat × Nat} : β.cut n d = some x ↔ d < n ∧ β d = some x := by
  unfold B.cut
  split
  · simp [*]
  · simp [*]
theorem cut_mono {β β' : B} {n n' : Nat} (h : n ≤ n') (k : β.le β') : (β.cut n).le (β'.cut n') := fun d x e => by
  obtain ⟨h1, h2⟩ := cut_some.1 e
  exact cut_some.2 ⟨by omega, k _ _ h2⟩
theorem cut_all {β : B} {n : Nat} (h : ∀ d x, β d = some x → d < n) : β.cut n = β := by
  funext d
  unfold B.cut
  split
  · rfl
  · cases hb : β d with
    | none => rfl
    | some x => exact absurd (h d x hb) ‹_›
theorem newOk_mono {β β' : B} (hl : β.le β') {b : Blk} {ob : Obj} {z : Nat} (h : NewOk ρ β b ob z) : NewOk ρ β' b ob z := by
  cases b with
  | cells c =>
    obtain ⟨mc, el, fr, h1, h2, h3, h4, h5, h6⟩ := h
    exact ⟨mc, el, fr, h1, h2, h3, h4, h5, VRels.mono hl _ _ h6⟩
  | mp es =>
    obtain ⟨en, cl, h1, h2⟩ := h
    exact ⟨en, cl, h1, h2.mono hl⟩
/-- a new block beside those known -/
theorem hrel_ext {β : B} {h : H} {w : World} {b : Blk} {ob : Obj} {m z : Nat} (hr : HRel ρ (β.cut h.nx) h w) (hb : β h.nx = some (m, 0, z)) (hw : w.heap[m]? = some ob) (hn : NewOk ρ (β.cut h.nx) b ob z)
    (hap : ∀ d o' z', d < h.nx → β d ≠ some (m, o', z')) : HRel ρ (β.cut (h.nx + 1)) (h.new b) w := by
  have hle : (β.cut h.nx).le (β.cut (h.nx + 1)) := cut_mono (by omega) (.refl β)
  have hlt : m < w.heap.size := (Array.getElem?_eq_some_iff.1 hw).1
  have old : ∀ d x, d ≠ h.nx → (β.cut (h.nx + 1)) d = some x → (β.cut h.nx) d = some x := by
    intro d x e hd
    obtain ⟨h1, h2⟩ := cut_some.1 hd
    exact cut_some.2 ⟨by omega, h2⟩
  have new : ∀ x, (β.cut (h.nx + 1)) h.nx = some x → x = (m, 0, z) := by
    intro x hx
    obtain ⟨_, h2⟩ := cut_some.1 hx
    rw [hb] at h2
    cases h2
    rfl
  refine ⟨?_, ?_, ?_, ?_⟩
  · intro d m' o z' c hd hc
    by_cases e : d = h.nx
    · subst e
      have := new _ hd
      cases this
      rw [new_get_self] at hc
      cases hc
      obtain ⟨mc, el, fr, h1, h2, h3, h4, h5, h6⟩ := hn
      subst h1
      exact ⟨mc, el, fr, hw, h2, h3, by omega, h5, by simpa using VRels.mono hle _ _ h6⟩
    · rw [new_get_ne _ _ e] at hc
      obtain ⟨mc, el, fr, h1, h2, h3, h4, h5, h6⟩ := hr.cells d m' o z' c (old _ _ e hd) hc
      exact ⟨mc, el, fr, h1, h2, h3, h4, h5, VRels.mono hle _ _ h6⟩
  · intro d m' o z' es hd hc
    by_cases e : d = h.nx
    · subst e
      have := new _ hd
      cases this
      rw [new_get_self] at hc
      cases hc
      obtain ⟨en, cl, h1, h2⟩ := hn
      subst h1
      exact ⟨en, cl, hw, h2.mono hle⟩
    · rw [new_get_ne _ _ e] at hc
      obtain ⟨en, cl, h1, h2⟩ := hr.maps d m' o z' es (old _ _ e hd) hc
      exact ⟨en, cl, h1, h2.mono hle⟩
  · intro d d' m' o z₁ o' z₂ h1 h2 s1 s2
    by_cases e : d = h.nx
    · by_cases e' : d' = h.nx
      · omega
      · subst e
        have := new _ h1
        cases this
        obtain ⟨k1, k2⟩ := cut_some.1 (old _ _ e' h2)
        exact absurd k2 (hap _ _ _ k1)
    · by_cases e' : d' = h.nx
      · subst e'
        have := new _ h2
        cases this
        obtain ⟨k1, k2⟩ := cut_some.1 (old _ _ e h1)
        exact absurd k2 (hap _ _ _ k1)
      · rw [new_get_ne _ _ e] at s1
        rw [new_get_ne _ _ e'] at s2
        exact hr.inj d d' m' o z₁ o' z₂ (old _ _ e h1) (old _ _ e' h2) s1 s2
  · intro d m' o z' hd
    by_cases e : d = h.nx
    · subst e
      have := new _ hd
      cases this
      exact hlt
    · exact hr.low d m' o z' (old _ _ e hd)
theorem hrel_push {β : B} {h : H} {w w' : World} {ob : Obj} (hr : HRel ρ β h w) (hw : w'.heap = w.heap.push ob) : HRel ρ β h w' := by
  have he : ∀ m, m < w.heap.size → w'.heap[m]? = w.heap[m]? := fun m hm => by rw [hw, Array.getElem?_push_lt hm, Array.getElem?_eq_getElem hm]
  refine ⟨?_, ?_, hr.inj, ?_⟩
  · intro d m o z c hb hc
    obtain ⟨mc, el, fr, h1, hrest⟩ := hr.cells d m o z c hb hc
    exact ⟨mc, el, fr, by rw [he m (hr.low d m o z hb)]; exact h1, hrest⟩
  · intro d m o z es hb hc
    obtain ⟨en, cl, h1, hrest⟩ := hr.maps d m o z es hb hc
    exact ⟨en, cl, by rw [he m (hr.low d m o z hb)]; exact h1, hrest⟩
  · intro d m o z hb
    have := hr.low d m o z hb
    rw [hw, Array.size_push]
    omega
/-- how far the model has come -/
structure Far (β₀ : B) (n₀ : Nat) (w₀ : World) (β : B) (w : World) : Prop where
  le : β₀.le β
  frame : Frame β₀ w₀ w
  fresh : ∀ d m o z, β₀ d = none → β d = some (m, o, z) → n₀ ≤ d ∧ (w₀.heap.size ≤ m ∨ ∃ d₀ o₀ z₀, β₀ d₀ = some (m, o₀, z₀))

def lis (listed : Array Bool) (i : Nat) : Prop := listed.getD i false = true
theorem Al.mono {α γ : Type} {R S : α → γ → Prop} (h : ∀ a c, R a c → S a c) : ∀ {as : List α} {cs : List γ}, Al R as cs → Al S as cs
  | [], _, e => e
  | a :: as, _, e => by
    obtain ⟨c, cs, rfl, h1, h2⟩ := e
    exact ⟨c, cs, rfl, h a c h1, Al.mono h h2⟩
theorem Al.mp {α γ δ : Type} {R : α → γ → Prop} {S : α → δ → Prop} : ∀ {as : List α} {l : List γ} {es : List δ}, Al R as l → Al S as es → es.length = l.length ∧ ∀ (i : Nat) (e : δ) (c : γ), es[i]? = some e → l[i]? = some c → ∃ a, a ∈ as ∧ R a c ∧ S a e
  | [], l, es, h1, h2 => by
    have h1 : l = [] := h1
    have h2 : es = [] := h2
    subst h1; subst h2
    exact ⟨rfl, fun i e c h => by simp at h⟩
  | a :: as, l, es, h1, h2 => by
    obtain ⟨c, cs, rfl, h3, h4⟩ := h1
    obtain ⟨d, ds, rfl, h5, h6⟩ := h2
    obtain ⟨k1, k2⟩ := Al.mp h4 h6
    refine ⟨by simp [k1], fun i e c' he hc => ?_⟩
    cases i with
    | zero => simp at he hc; subst he; subst hc; exact ⟨a, List.mem_cons_self, h3, h5⟩
    | succ i =>
      obtain ⟨b, hb, hr, hs⟩ := k2 i e c' (by simpa using he) (by simpa using hc)
      exact ⟨b, List.mem_cons_of_mem _ hb, hr, hs⟩
section
variable {call : CallD} {ops : Array Oper} {ms : List Nat} {L : List (Nat × Nat)} {st : Nat → Act} {ss : Nat → List H}
/-- what a block made at place q holds now: a map holds the entries that are done -/
def NowOk (ρ : Env) (ops : Array Oper) (L : List (Nat × Nat)) (st : Nat → Act) (listed : Array Bool) (β : B) (q : Nat) (b : Blk) (ob : Obj) (z : Nat) : Prop := match b with
  | .cells c => NewOk ρ (β.cut (st q).h.nx) (.cells c) ob z
  | .mp es => es = [] ∧ ∃ entries clock l ks, ob = .map entries clock ∧ StOk entries clock ∧ List.Perm l entries.toList ∧ ks.Nodup ∧ (∀ k, k ∈ ks ↔ (∃ x, L[k]? = some x ∧ lis listed x.1) ∧ ∃ x y, EntryAt ops L st k (st q).h.nx x y) ∧
      Al (fun k (e : MapEntry) => ∃ x y, EntryAt ops L st k (st q).h.nx x y ∧ VRel ρ (β.cut (st k).h.nx) x e.key ∧ VRel ρ (β.cut (st k).h.nx) y e.val) ks l
theorem nowOk_mono {listed listed' : Array Bool} {β β' : B} {q : Nat} {b : Blk} {ob : Obj} {z : Nat} (hl : β.le β') (hs : ∀ (k : Nat) (x : Nat × Nat), L[k]? = some x → (∃ u v, EntryAt ops L st k (st q).h.nx u v) → (lis listed' x.1 ↔ lis listed x.1)) (h : NowOk ρ ops L st listed β q b ob z) : NowOk ρ ops L st listed' β' q b ob z := by
  cases b with
  | cells c =>
    have h : NewOk ρ (β.cut (st q).h.nx) (.cells c) ob z := h
    have h' : NewOk ρ (β'.cut (st q).h.nx) (.cells c) ob z := newOk_mono (cut_mono (Nat.le_refl _) hl) h
    exact h'
  | mp es =>
    obtain ⟨h1, en, cl, l, ks, h2, hst, h3, h4, h5, h6⟩ := h
    refine ⟨h1, en, cl, l, ks, h2, hst, h3, h4, fun k => ?_, Al.mono (fun k e he => ?_) h6⟩
    · rw [h5]
      constructor
      · rintro ⟨⟨x, hx, hlx⟩, hE⟩
        exact ⟨⟨x, hx, (hs k x hx hE).2 hlx⟩, hE⟩
      · rintro ⟨⟨x, hx, hlx⟩, hE⟩
        exact ⟨⟨x, hx, (hs k x hx hE).1 hlx⟩, hE⟩
    · obtain ⟨x, y, g1, g2, g3⟩ := he
      exact ⟨x, y, g1, VRel.mono (cut_mono (Nat.le_refl _) hl) _ _ g2, VRel.mono (cut_mono (Nat.le_refl _) hl) _ _ g3⟩
/-- what stands at every point -/
structure Inv (ρ : Env) (P : Program) (ops : Array Oper) (ms : List Nat) (L : List (Nat × Nat)) (st : Nat → Act) (β₀ : B) (w₀ : World) (n : Nat) (df : List Deferred) (listed : Array Bool) (β : B) (p : Nat) (a : Go.Act) (w : World) : Prop where
  size : listed.size = ops.size
  ple : p ≤ L.length
  pact : p = 0 ∨ ∃ (x : Nat × Nat) (o : Oper), L[p - 1]? = some x ∧ ops[x.1]? = some o ∧ cls o.op P = 3
  done : ∀ (m : Nat) (x : Nat × Nat), L[m]? = some x → m < p → lis listed x.1
  acts : ∀ (m : Nat) (x : Nat × Nat) (o : Oper), L[m]? = some x → ops[x.1]? = some o → cls o.op P = 3 → lis listed x.1 → m < p
  closed : ∀ (i : Nat) (o : Oper), ops[i]? = some o → lis listed i → ∀ k, Nat.testBit (maskAt ms i) k = true → lis listed k
  blk : ∀ d m o z, β d = some (m, o, z) → m < w.heap.size ∧ (d < (st p).h.nx ∨ ∃ (q : Nat) (x : Nat × Nat), p ≤ q ∧ L[q]? = some x ∧ lis listed x.1 ∧ d = (st q).h.nx ∧ (st q).h.nx < (st (q + 1)).h.nx)
  base : HRel ρ (β.cut (st p).h.nx) (st p).h w
  extra : ∀ (q : Nat) (x : Nat × Nat), p ≤ q → L[q]? = some x → lis listed x.1 → (st q).h.nx < (st (q + 1)).h.nx → ∃ b m z ob, (st (q + 1)).h = (st q).h.new b ∧ β (st q).h.nx = some (m, 0, z) ∧ w.heap[m]? = some ob ∧ NowOk ρ ops L st listed β q b ob z
  inj : ∀ d d' m o z o' z', β d = some (m, o, z) → β d' = some (m, o', z') → (st p).h.nx ≤ d → d = d'
  new : ∀ (q : Nat) (x : Nat × Nat) (o : Oper) (d : Nat) (v : V), L[q]? = some x → ops[x.1]? = some o → o.dst = some d → lis listed x.1 → (st (q + 1)).t.get d = some v → ∃ u, a.tmps[d]? = some u ∧ VRel ρ (β.cut (st (q + 1)).h.nx) v u
  old : ∀ (d : Nat) (v : V), (∀ (k : Nat) (o : Oper), ops[k]? = some o → o.dst = some d → ¬ lis listed k) → (st 0).t.get d = some v → ∃ u, a.tmps[d]? = some u ∧ VRel ρ (β.cut (st 0).h.nx) v u
  far : Far β₀ (st 0).h.nx w₀ β w
  asize : a.tmps.size = n
  adef : a.defers = df
variable (D : Dr P call ops ms L st ss) {β₀ : B} {w₀ : World} {n : Nat} {df : List Deferred} {listed : Array Bool} {β : B} {p : Nat} {a : Go.Act} {w : World}
include D
/-- what an operation looks at, as the machine has it there -/
theorem Inv.sees (I : Inv ρ P ops ms L st β₀ w₀ n df listed β p a w) {m : Nat} {x : Nat × Nat} {o : Oper} (hx : L[m]? = some x) (ho : ops[x.1]? = some o) (hun : ¬ lis listed x.1) (hanc : ∀ k, Nat.testBit (maskAt ms x.1) k = true → lis listed k)
    {d : Nat} (hd : d ∈ opTmps o ∨ d ∈ guardTmp ops.toList o) {v : V} (hv : (st m).t.get d = some v) : ∃ u, a.tmps[d]? = some u ∧ VRel ρ (β.cut (st m).h.nx) v u := by
  have hml : m < L.length := (List.getElem?_eq_some_iff.1 hx).1
  by_cases hk : ∃ (k : Nat) (o' : Oper), ops[k]? = some o' ∧ o'.dst = some d
  · obtain ⟨k, o', ho', hd'⟩ := hk
    obtain ⟨q, y, hy, rfl⟩ := D.full k (Array.getElem?_eq_some_iff.1 ho').1
    rcases D.reads x.1 o ho y.1 o' d ho' hd' hd with h | h
    · obtain ⟨q', y', hq', hy', he⟩ := D.before m x hx _ h
      have := D.once _ _ _ _ hy hy' he.symm
      subst this
      rw [D.wrote hy ho' hd' hq' (by omega)] at hv
      obtain ⟨u, h1, h2⟩ := I.new q y o' d v hy ho' hd' (hanc _ h) hv
      exact ⟨u, h1, VRel.mono (cut_mono (D.nx_mono (by omega) (by omega)) (.refl β)) _ _ h2⟩
    · have hnl : ¬ lis listed y.1 := fun hl => hun (I.closed _ _ ho' hl _ h)
      obtain ⟨q', y', hq', hy', he⟩ := D.before q y hy _ h
      have := D.once _ _ _ _ hx hy' he.symm
      subst this
      have hs : (st m).t.get d = (st 0).t.get d := by
        refine D.slot (Nat.zero_le _) (by omega) fun r z oz _ hr hz hoz hdz => ?_
        have := D.apart _ _ _ _ _ ho' hoz hd' hdz
        have := D.once _ _ _ _ hy hz this
        omega
      rw [hs] at hv
      obtain ⟨u, h1, h2⟩ := I.old d v (fun k o'' hk hdk hl => by
        have := D.apart _ _ _ _ _ ho' hk hd' hdk
        rw [← this] at hl
        exact hnl hl) hv
      exact ⟨u, h1, VRel.mono (cut_mono (D.nx_mono (by omega) (by omega)) (.refl β)) _ _ h2⟩
  · have hs : (st m).t.get d = (st 0).t.get d := by
      refine D.slot (Nat.zero_le _) (by omega) fun r z oz _ hr hz hoz hdz => hk ⟨_, _, hoz, hdz⟩
    rw [hs] at hv
    obtain ⟨u, h1, h2⟩ := I.old d v (fun k o'' hk' hdk _ => hk ⟨_, _, hk', hdk⟩) hv
    exact ⟨u, h1, VRel.mono (cut_mono (D.nx_mono (by omega) (by omega)) (.refl β)) _ _ h2⟩
/-- whose map an entry goes into was made in here -/
theorem Inv.home (I : Inv ρ P ops ms L st β₀ w₀ n df listed β p a w) {k d : Nat} {x y : V} (hk : p ≤ k) (hE : EntryAt ops L st k d x y) : ∃ q, p ≤ q ∧ q < k ∧ (st q).h.nx = d ∧ (st (q + 1)).h = (st q).h.new (.mp []) := by
  obtain ⟨q, _, _, _, _, _, h1, h2, h3, h4, _⟩ := D.maker_of hE
  have hkl := D.entry_lt hE
  refine ⟨q, ?_, h1, h2, h3⟩
  rcases I.pact with h | ⟨x', o', g1, g2, g3⟩
  · omega
  · rcases Nat.lt_or_ge q p with h | h
    · exact absurd g3 (h4 (p - 1) x' o' (by omega) (by omega) g1 g2)
    · exact h
/-- blocks of the last act's time stay -/
theorem Inv.stays (I : Inv ρ P ops ms L st β₀ w₀ n df listed β p a w) {m d : Nat} (hpm : p ≤ m) (hml : m ≤ L.length) (hd : d < (st p).h.nx)
    (hno : ∀ (r : Nat) (x : Nat × Nat) (o : Oper), p ≤ r → r < m → d < (st r).h.nx → L[r]? = some x → ops[x.1]? = some o → cls o.op P ≠ 3) : (st m).h.bl.get d = (st p).h.bl.get d := by
  refine D.block hpm hml hd (fun r x o' h1 h2 => hno r x o' h1 h2 (Nat.lt_of_lt_of_le hd (D.nx_mono h1 (by omega)))) fun k u v h1 h2 hE => ?_
  obtain ⟨q, h3, h4, h5, _⟩ := I.home D h1 hE
  have := D.nx_mono h3 (by omega)
  omega
/-- one block: what the machine has at a place stands for what the model has now -/
theorem Inv.block_at (I : Inv ρ P ops ms L st β₀ w₀ n df listed β p a w) {m d : Nat} (hpm : p ≤ m) (hml : m ≤ L.length) (hd : d < (st m).h.nx)
    (hno : ∀ (r : Nat) (x : Nat × Nat) (o : Oper), p ≤ r → r < m → d < (st r).h.nx → L[r]? = some x → ops[x.1]? = some o → cls o.op P ≠ 3)
    (htell : ∀ (k : Nat) (x y : V) (z : Nat × Nat), EntryAt ops L st k d x y → L[k]? = some z → (lis listed z.1 ↔ k < m))
    {mb o z : Nat} (hb : β d = some (mb, o, z)) :
    (∀ c, (st m).h.bl.get d = some (.cells c) → ∃ mc el fr, w.heap[mb]? = some (.cells mc el fr) ∧ mc.size = z ∧ (∀ i, i < z → ¬ (fr.1 ≤ i ∧ i < fr.2)) ∧ o + c.length ≤ z ∧ atoms c = true ∧ VRels ρ (β.cut (st m).h.nx) c ((mc.toList.drop o).take c.length)) ∧
    (∀ es, (st m).h.bl.get d = some (.mp es) → ∃ entries clock, w.heap[mb]? = some (.map entries clock) ∧ MRel ρ (β.cut (st m).h.nx) es entries clock) := by
  obtain ⟨_, hlt | ⟨q, xq, hq, hxq, hlq, hdq, hinc⟩⟩ := I.blk d mb o z hb
  · rw [I.stays D hpm hml hlt hno]
    have hcut : (β.cut (st p).h.nx) d = some (mb, o, z) := cut_some.2 ⟨hlt, hb⟩
    have hle : (β.cut (st p).h.nx).le (β.cut (st m).h.nx) := cut_mono (D.nx_mono hpm hml) (.refl β)
    refine ⟨fun c hc => ?_, fun es hes => ?_⟩
    · obtain ⟨mc, el, fr, h1, h2, h3, h4, h5, h6⟩ := I.base.cells d mb o z c hcut hc
      exact ⟨mc, el, fr, h1, h2, h3, h4, h5, VRels.mono hle _ _ h6⟩
    · obtain ⟨en, cl, h1, h2⟩ := I.base.maps d mb o z es hcut hes
      exact ⟨en, cl, h1, h2.mono hle⟩
  · have hqL : q < L.length := (List.getElem?_eq_some_iff.1 hxq).1
    have hqm : q < m := by
      rcases Nat.lt_or_ge q m with h | h
      · exact h
      · have := D.nx_mono h (by omega)
        omega
    obtain ⟨b, mb', z', ob, e1, e2, e3, e4⟩ := I.extra q xq hq hxq hlq hinc
    subst hdq
    rw [hb] at e2
    cases e2
    have hnx : (st (q + 1)).h.nx = (st q).h.nx + 1 := by rw [e1]; rfl
    have hle : (β.cut (st q).h.nx).le (β.cut (st m).h.nx) := cut_mono (D.nx_mono (by omega) hml) (.refl β)
    have hno' : ∀ (r : Nat) (x : Nat × Nat) (o : Oper), q + 1 ≤ r → r < m → L[r]? = some x → ops[x.1]? = some o → cls o.op P ≠ 3 := fun r x o' h1 h2 =>
      hno r x o' (by omega) h2 (by have := D.nx_mono h1 (by omega); omega)
    cases b with
    | cells c =>
      have hs : (st m).h.bl.get (st q).h.nx = some (.cells c) := by
        rw [D.block (m := q + 1) (by omega) hml (by omega) hno' fun k u v h1 h2 hE => ?_, e1, new_get_self]
        obtain ⟨q', _, _, _, _, _, f0, f2, f3, _⟩ := D.maker_of hE
        have := D.made_once (by omega) hqL f2 f3 rfl e1
        subst this
        rw [e1] at f3
        have := congrArg (fun h : H => h.bl.get (st q').h.nx) f3
        simp only [new_get_self] at this
        cases this
      refine ⟨fun c' hc => ?_, fun es hes => (by rw [hs] at hes; cases hes)⟩
      rw [hs] at hc
      cases hc
      obtain ⟨mc, el, fr, h1, h2, h3, h4, h5, h6⟩ := e4
      subst h1
      exact ⟨mc, el, fr, e3, h2, h3, by omega, h5, by simpa using VRels.mono hle _ _ h6⟩
    | mp es =>
      obtain ⟨rfl, en, cl, l, ks, rfl, hst, hp, hnd, hmem, hal⟩ := e4
      obtain ⟨ks', es', f1, f2, f3, f4⟩ := D.entries rfl e1 (m := m) (by omega) hml hno'
      refine ⟨fun c hc => (by rw [f1] at hc; cases hc), fun es hes => ?_⟩
      rw [f1] at hes
      cases hes
      have hperm : ks.Perm ks' := perm_of_mem hnd f2 fun k => by
        rw [hmem, f3]
        constructor
        · rintro ⟨⟨x, hx, hl⟩, u, v, hE⟩
          obtain ⟨q', _, _, _, _, _, g1, g2, g3, _⟩ := D.maker_of hE
          have hkl := D.entry_lt hE
          have := D.made_once (by omega) hqL g2 g3 rfl e1
          exact ⟨by omega, (htell k u v x hE hx).1 hl, u, v, hE⟩
        · rintro ⟨g1, g2, u, v, hE⟩
          have hkl := D.entry_lt hE
          have hx : L[k]? = some L[k] := List.getElem?_eq_getElem hkl
          exact ⟨⟨_, hx, (htell k u v _ hE hx).2 g2⟩, u, v, hE⟩
      obtain ⟨l', hp', hal'⟩ := Al.perm hperm hal
      obtain ⟨hlen, hat⟩ := Al.mp hal' f4
      have rel : ∀ (i : Nat) (e : V × V) (c : MapEntry), es'[i]? = some e → l'[i]? = some c → VRel ρ (β.cut (st m).h.nx) e.1 c.key ∧ VRel ρ (β.cut (st m).h.nx) e.2 c.val := by
        intro i e c he hc
        obtain ⟨k, hk, ⟨u', v', hE, r1, r2⟩, hE'⟩ := hat i e c he hc
        obtain ⟨h1, h2⟩ := entry_one hE' hE
        have hkm := ((f3 k).1 hk).2.1
        have hle' : (β.cut (st k).h.nx).le (β.cut (st m).h.nx) := cut_mono (D.nx_mono (by omega) hml) (.refl β)
        rw [h1, h2]
        exact ⟨VRel.mono hle' _ _ r1, VRel.mono hle' _ _ r2⟩
      refine ⟨en, cl, e3, ⟨l', hp'.symm.trans hp, ?_, ?_⟩, hst⟩
      · refine VRels.mk (by simp [hlen]) fun i u v hu hv => ?_
        rw [List.getElem?_map, Option.map_eq_some_iff] at hu hv
        obtain ⟨e, he, rfl⟩ := hu
        obtain ⟨c, hc, rfl⟩ := hv
        exact (rel i e c he hc).1
      · refine VRels.mk (by simp [hlen]) fun i u v hu hv => ?_
        rw [List.getElem?_map, Option.map_eq_some_iff] at hu hv
        obtain ⟨e, he, rfl⟩ := hu
        obtain ⟨c, hc, rfl⟩ := hv
        exact (rel i e c he hc).2
/-- where all before a place is done, memory is as the machine has it there -/
theorem Inv.upto (I : Inv ρ P ops ms L st β₀ w₀ n df listed β p a w) {m : Nat} (hpm : p ≤ m) (hml : m ≤ L.length) (hall : ∀ (q : Nat) (x : Nat × Nat), L[q]? = some x → q < m → lis listed x.1)
    (htell : ∀ (k d : Nat) (x y : V) (z : Nat × Nat), EntryAt ops L st k d x y → L[k]? = some z → lis listed z.1 → k < m) : HRel ρ (β.cut (st m).h.nx) (st m).h w := by
  have hno : ∀ (r : Nat) (x : Nat × Nat) (o : Oper), p ≤ r → r < m → L[r]? = some x → ops[x.1]? = some o → cls o.op P ≠ 3 := fun r x o h1 h2 h3 h4 h5 => by
    have := I.acts r x o h3 h4 h5 (hall r x h3 h2)
    omega
  have key := fun {d mb o z : Nat} (hd : d < (st m).h.nx) (hb : β d = some (mb, o, z)) => I.block_at D hpm hml hd (fun r x o h1 h2 _ => hno r x o h1 h2) (fun k u v z hE hz => ⟨htell k d u v z hE hz, fun h => hall k z hz h⟩) hb
  refine ⟨fun d mb o z c hb hc => ?_, fun d mb o z es hb hes => ?_, fun d d' mb o z o' z' h1 h2 s1 s2 => ?_, fun d mb o z hb => (I.blk d mb o z (cut_some.1 hb).2).1⟩
  · obtain ⟨h1, h2⟩ := cut_some.1 hb
    exact (key h1 h2).1 c hc
  · obtain ⟨h1, h2⟩ := cut_some.1 hb
    exact (key h1 h2).2 es hes
  · obtain ⟨k1, k2⟩ := cut_some.1 h1
    obtain ⟨k3, k4⟩ := cut_some.1 h2
    rcases Nat.lt_or_ge d (st p).h.nx with h | h
    · rcases Nat.lt_or_ge d' (st p).h.nx with h' | h'
      · refine I.base.inj d d' mb o z o' z' (cut_some.2 ⟨h, k2⟩) (cut_some.2 ⟨h', k4⟩) ?_ ?_
        · rw [← I.stays D hpm hml h fun r x o h1 h2 _ => hno r x o h1 h2]; exact s1
        · rw [← I.stays D hpm hml h' fun r x o h1 h2 _ => hno r x o h1 h2]; exact s2
      · exact (I.inj _ _ _ _ _ _ _ k4 k2 h').symm
    · exact I.inj _ _ _ _ _ _ _ k2 k4 h
omit D in
theorem lis_set {i j : Nat} (hi : i < listed.size) : lis (listed.setIfInBounds i true) j ↔ j = i ∨ lis listed j := by
  unfold lis
  by_cases e : j = i
  · subst e; simp [hi]
  · rw [getD_set_ne false (Ne.symm e)]; simp [e]
/-- slots, after one more operation -/
theorem Inv.slots (I : Inv ρ P ops ms L st β₀ w₀ n df listed β p a w) {m : Nat} {x : Nat × Nat} {o : Oper} (hx : L[m]? = some x) (ho : ops[x.1]? = some o) {β' : B} (hle : β.le β') {v : V} {q : Value} (ht : (st (m + 1)).t = ((st m).put o.dst v).t)
    (hv : VRel ρ (β'.cut (st (m + 1)).h.nx) v q) (hdst : ∀ d, o.dst = some d → d < n) :
    (∀ (q' : Nat) (x' : Nat × Nat) (o' : Oper) (d : Nat) (v' : V), L[q']? = some x' → ops[x'.1]? = some o' → o'.dst = some d → lis (listed.setIfInBounds x.1 true) x'.1 → (st (q' + 1)).t.get d = some v' → ∃ u, (a.put o.dst q).tmps[d]? = some u ∧ VRel ρ (β'.cut (st (q' + 1)).h.nx) v' u) ∧
    (∀ (d : Nat) (v' : V), (∀ (k : Nat) (o : Oper), ops[k]? = some o → o.dst = some d → ¬ lis (listed.setIfInBounds x.1 true) k) → (st 0).t.get d = some v' → ∃ u, (a.put o.dst q).tmps[d]? = some u ∧ VRel ρ (β'.cut (st 0).h.nx) v' u) := by
  have hil : x.1 < listed.size := by rw [I.size]; exact (Array.getElem?_eq_some_iff.1 ho).1
  have keep : ∀ d, o.dst ≠ some d → (a.put o.dst q).tmps[d]? = a.tmps[d]? := by
    intro d hd
    cases hod : o.dst with
    | none => rfl
    | some d' =>
      simp only [Go.Act.put]
      exact Array.getElem?_setIfInBounds_ne fun e => hd (by rw [hod, e])
  constructor
  · intro q' x' o' d v' hx' ho' hd' hl hv'
    by_cases e : x'.1 = x.1
    · have := D.once _ _ _ _ hx' hx e
      subst this
      rw [hx] at hx'
      cases hx'
      rw [ho] at ho'
      cases ho'
      rw [ht, hd'] at hv'
      simp only [Act.put] at hv'
      rw [T.get_set_same _ _ _ _ (Nat.lt_succ_self _)] at hv'
      cases hv'
      refine ⟨q, ?_, hv⟩
      rw [hd']
      simp only [Go.Act.put]
      rw [Array.getElem?_setIfInBounds_self_of_lt]
      rw [I.asize]
      exact hdst d hd'
    · have hl' := ((lis_set hil).1 hl).resolve_left e
      obtain ⟨u, h1, h2⟩ := I.new q' x' o' d v' hx' ho' hd' hl' hv'
      refine ⟨u, ?_, VRel.mono (cut_mono (Nat.le_refl _) hle) _ _ h2⟩
      rw [keep d fun h => e (D.apart _ _ _ _ _ ho' ho hd' h)]
      exact h1
  · intro d v' hno hv'
    have hne : o.dst ≠ some d := fun h => hno x.1 o ho h ((lis_set hil).2 (.inl rfl))
    obtain ⟨u, h1, h2⟩ := I.old d v' (fun k o' hk hd hl => hno k o' hk hd ((lis_set hil).2 (.inr hl))) hv'
    exact ⟨u, by rw [keep d hne]; exact h1, VRel.mono (cut_mono (Nat.le_refl _) hle) _ _ h2⟩
/-- one more operation that leaves memory as it is -/
theorem Inv.calm (I : Inv ρ P ops ms L st β₀ w₀ n df listed β p a w) {m : Nat} {x : Nat × Nat} {o : Oper} (hx : L[m]? = some x) (ho : ops[x.1]? = some o) (_hun : ¬ lis listed x.1) (hanc : ∀ k, Nat.testBit (maskAt ms x.1) k = true → lis listed k)
    {v : V} {q : Value} (ht : (st (m + 1)).t = ((st m).put o.dst v).t) (hh : (st (m + 1)).h = (st m).h) (hv : VRel ρ (β.cut (st m).h.nx) v q) (hdst : ∀ d, o.dst = some d → d < n) (hc3 : cls o.op P ≠ 3) (hne : ∀ d u v, ¬ EntryAt ops L st m d u v) :
    Inv ρ P ops ms L st β₀ w₀ n df (listed.setIfInBounds x.1 true) β p (a.put o.dst q) w := by
  have hil : x.1 < listed.size := by rw [I.size]; exact (Array.getElem?_eq_some_iff.1 ho).1
  obtain ⟨k1, k2⟩ := I.slots D hx ho (.refl β) ht (by rw [hh]; exact hv) hdst
  refine ⟨by simp [I.size], I.ple, I.pact, fun m' x' h1 h2 => (lis_set hil).2 (.inr (I.done m' x' h1 h2)), ?_, ?_, ?_, I.base, ?_, I.inj, k1, k2, I.far, by rw [put_size]; exact I.asize, by rw [put_defers]; exact I.adef⟩
  · intro m' x' o' hx' ho' hc hl
    rcases (lis_set hil).1 hl with e | hl
    · have := D.once _ _ _ _ hx' hx e
      subst this
      rw [hx] at hx'
      cases hx'
      rw [ho] at ho'
      cases ho'
      exact absurd hc hc3
    · exact I.acts m' x' o' hx' ho' hc hl
  · intro i o' ho' hl k hk
    rcases (lis_set hil).1 hl with e | hl
    · subst e
      exact (lis_set hil).2 (.inr (hanc k hk))
    · exact (lis_set hil).2 (.inr (I.closed i o' ho' hl k hk))
  · intro d m' o' z hb
    obtain ⟨h1, h2⟩ := I.blk d m' o' z hb
    refine ⟨h1, h2.imp id ?_⟩
    rintro ⟨q', x', h3, h4, h5, h6⟩
    exact ⟨q', x', h3, h4, (lis_set hil).2 (.inr h5), h6⟩
  · intro q' x' hp hx' hl hlt
    rcases (lis_set hil).1 hl with e | hl
    · have := D.once _ _ _ _ hx' hx e
      subst this
      rw [hh] at hlt
      omega
    · obtain ⟨b, mb, z, ob, e1, e2, e3, e4⟩ := I.extra q' x' hp hx' hl hlt
      refine ⟨b, mb, z, ob, e1, e2, e3, nowOk_mono (.refl β) (fun k y hy hE => ?_) e4⟩
      rw [lis_set hil]
      constructor
      · rintro (h | h)
        · have := D.once _ _ _ _ hy hx h
          subst this
          obtain ⟨u, v, hE⟩ := hE
          exact absurd hE (hne _ _ _)
        · exact h
      · exact .inr
end
end Go.Dm
namespace Go.Dm
variable {ρ : Env} {P : Program}
theorem findKey_none {kt : Nat} {k : V} : ∀ {es : List (V × V)}, (∀ e ∈ es, eqV P kt k e.1 = .ok false) → findKey P kt k es = .ok none
  | [], _ => rfl
  | e :: es, h => by
    simp only [findKey, h e List.mem_cons_self, R.bind, findKey_none fun x hx => h x (List.mem_cons_of_mem _ hx), pickKey]
theorem put_new {β : B} {w : World} {ty : Nat} {y : Nat × Nat} {es : List (V × V)} {entries : Array MapEntry} {clock mb : Nat} {k : V} {kv vv : Value} (ht : tMap P ty = .ok y) (hkd : keyKd P y.1 = true) (hka : kaOf P y.1 k = true) (hk : VRel ρ β k kv) (hm : MRel ρ β es entries clock) (hno : ∀ e ∈ es, eqV P y.1 k e.1 = .ok false)
    (hw : w.heap[mb]? = some (.map entries clock)) :
    (Instr.mapUpdate ty (.map (some mb)) kv vv).run P w = .ok () { w with heap := w.heap.setIfInBounds mb (.map (entries.push { key := kv, val := vv, born := clock }) (clock + 1)) } := by
  have hset : (setObj mb (.map (entries.push { key := kv, val := vv, born := clock }) (clock + 1))).run P w = .ok () { w with heap := w.heap.setIfInBounds mb (.map (entries.push { key := kv, val := vv, born := clock }) (clock + 1)) } := by simp only [setObj, Sem.run, hw]
  rcases find_sound hkd hk hm (findKey_none hno) w with ⟨_, hrun⟩ | ⟨_, _, _, _, _, _, _, _, _, h, _⟩
  · simp only [Instr.mapUpdate, Sem.run_bind, run_underlying (tMap_ok ht), Result.andThen_ok, run_getMap hw, checkKey_ok hkd hka hk, hrun, hset]
  · cases h
theorem hrel_same {γ : B} {h : H} {w w' : World} (hr : HRel ρ γ h w) (hs : w'.heap.size = w.heap.size) (hne : ∀ d m o z, γ d = some (m, o, z) → w'.heap[m]? = w.heap[m]?) : HRel ρ γ h w' := by
  refine ⟨?_, ?_, hr.inj, fun d m o z hb => by rw [hs]; exact hr.low d m o z hb⟩
  · intro d m o z c hb hc
    obtain ⟨mc, el, fr, h1, hrest⟩ := hr.cells d m o z c hb hc
    exact ⟨mc, el, fr, by rw [hne d m o z hb]; exact h1, hrest⟩
  · intro d m o z es hb hc
    obtain ⟨en, cl, h1, hrest⟩ := hr.maps d m o z es hb hc
    exact ⟨en, cl, by rw [hne d m o z hb]; exact h1, hrest⟩
theorem entry_map {ops : Array Oper} {L : List (Nat × Nat)} {st : Nat → Act} {k b b' : Nat} {x y x' y' : V} (h : EntryAt ops L st k b x y) (h' : EntryAt ops L st k b' x' y') : b = b' := by
  obtain ⟨z, o, ty, s, kk, vv, e1, e2, e3, _, e5, _⟩ := h
  obtain ⟨z', o', ty', s', kk', vv', g1, g2, g3, _, g5, _⟩ := h'
  rw [e1] at g1; cases g1
  rw [e2] at g2; cases g2
  rw [e3] at g3; cases g3
  rw [e5] at g5; cases g5
  rfl
theorem Al.mem_right {α γ : Type} {R : α → γ → Prop} : ∀ {as : List α} {cs : List γ}, Al R as cs → ∀ {c : γ}, c ∈ cs → ∃ a ∈ as, R a c
  | [], _, e, c, h => by
    have e : _ = [] := e
    rw [e] at h
    cases h
  | b :: as, cs, e, c, h => by
    obtain ⟨d, ds, rfl, h1, h2⟩ := e
    rcases List.mem_cons.1 h with rfl | h
    · exact ⟨b, List.mem_cons_self, h1⟩
    · obtain ⟨a, ha, hr⟩ := Al.mem_right h2 h
      exact ⟨a, List.mem_cons_of_mem _ ha, hr⟩
theorem Al.split {β : B} {A : Nat → V → V → Prop} {β' : Nat → B} : ∀ {ks : List Nat} {l : List MapEntry}, Al (fun k (e : MapEntry) => ∃ x y, A k x y ∧ VRel ρ ((β' k)) x e.key ∧ VRel ρ (β' k) y e.val) ks l → (∀ k, (β' k).le β) →
    ∃ es : List (V × V), Al (fun k e => A k e.1 e.2) ks es ∧ ∀ (i : Nat) (e : V × V) (c : MapEntry), es[i]? = some e → l[i]? = some c → VRel ρ β e.1 c.key ∧ VRel ρ β e.2 c.val
  | [], _, h, _ => ⟨[], rfl, fun i e c h => by simp at h⟩
  | k :: ks, l, h, hl => by
    obtain ⟨c, cs, rfl, ⟨x, y, h1, h2, h3⟩, h4⟩ := h
    obtain ⟨es, g1, g2⟩ := Al.split h4 hl
    refine ⟨(x, y) :: es, ⟨_, _, rfl, h1, g1⟩, fun i e c' he hc => ?_⟩
    cases i with
    | zero => simp at he hc; subst he; subst hc; exact ⟨VRel.mono (hl k) _ _ h2, VRel.mono (hl k) _ _ h3⟩
    | succ i => exact g2 i e c' (by simpa using he) (by simpa using hc)
section
variable {call : CallD} {ops : Array Oper} {ms : List Nat} {L : List (Nat × Nat)} {st : Nat → Act} {ss : Nat → List H}
variable (D : Dr P call ops ms L st ss) {β₀ : B} {w₀ : World} {n : Nat} {df : List Deferred} {listed : Array Bool} {β : B} {p : Nat} {a : Go.Act} {w : World}
include D
/-- no block has a number that a step in between gave, or will give -/
theorem Inv.gap (I : Inv ρ P ops ms L st β₀ w₀ n df listed β p a w) {m : Nat} {x : Nat × Nat} (hx : L[m]? = some x) (hun : ¬ lis listed x.1) {d : Nat} (h1 : (st m).h.nx ≤ d) (h2 : d < (st (m + 1)).h.nx) : β d = none := by
  have hml : m < L.length := (List.getElem?_eq_some_iff.1 hx).1
  have hpm : p ≤ m := by
    rcases Nat.lt_or_ge m p with h | h
    · exact absurd (I.done m x hx h) hun
    · exact h
  cases hb : β d with
  | none => rfl
  | some y =>
    obtain ⟨mb, o, z⟩ := y
    obtain ⟨_, h | ⟨q, y, hq, hy, hly, hd, hlt⟩⟩ := I.blk d mb o z hb
    · have := D.nx_mono hpm (by omega)
      omega
    · have hql : q < L.length := (List.getElem?_eq_some_iff.1 hy).1
      rcases Nat.lt_trichotomy q m with h | h | h
      · have := D.nx_mono (m := q + 1) (m' := m) (by omega) (by omega)
        omega
      · subst h
        rw [hx] at hy
        cases hy
        exact absurd hly hun
      · have := D.nx_mono (m := m + 1) (m' := q) (by omega) (by omega)
        omega
theorem Inv.place (I : Inv ρ P ops ms L st β₀ w₀ n df listed β p a w) {m : Nat} {x : Nat × Nat} (hx : L[m]? = some x) (hun : ¬ lis listed x.1) : p ≤ m := by
  have _ := D.once
  rcases Nat.lt_or_ge m p with h | h
  · exact absurd (I.done m x hx h) hun
  · exact h
/-- one more operation that makes a block -/
theorem Inv.made (I : Inv ρ P ops ms L st β₀ w₀ n df listed β p a w) {m : Nat} {x : Nat × Nat} {o : Oper} (hx : L[m]? = some x) (ho : ops[x.1]? = some o) (hun : ¬ lis listed x.1) (hanc : ∀ k, Nat.testBit (maskAt ms x.1) k = true → lis listed k)
    {v : V} {b : Blk} (ht : (st (m + 1)).t = ((st m).put o.dst v).t) (hh : (st (m + 1)).h = (st m).h.new b) {q : Value} {w' : World} {ob : Obj} {z : Nat} (hw : w'.heap = w.heap.push ob) (hos : w'.os = w.os) (hout : w'.output = w.output)
    (hn : NewOk ρ (β.cut (st m).h.nx) b ob z) (hmp : ∀ es, b = .mp es → es = []) (hne : ∀ d u v, ¬ EntryAt ops L st m d u v) (hv : VRel ρ ((β.cut (st m).h.nx).add (st m).h.nx (w.heap.size, 0, z)) v q) (hdst : ∀ d, o.dst = some d → d < n) (hc3 : cls o.op P ≠ 3) :
    Inv ρ P ops ms L st β₀ w₀ n df (listed.setIfInBounds x.1 true) (β.add (st m).h.nx (w.heap.size, 0, z)) p (a.put o.dst q) w' := by
  have hil : x.1 < listed.size := by rw [I.size]; exact (Array.getElem?_eq_some_iff.1 ho).1
  have hml : m < L.length := (List.getElem?_eq_some_iff.1 hx).1
  have hpm := I.place D hx hun
  have hnx : (st (m + 1)).h.nx = (st m).h.nx + 1 := by rw [hh]; rfl
  have hnone : β (st m).h.nx = none := I.gap D hx hun (Nat.le_refl _) (by omega)
  have hle : β.le (β.add (st m).h.nx (w.heap.size, 0, z)) := B.le_add _ hnone
  have hv' : VRel ρ ((β.add (st m).h.nx (w.heap.size, 0, z)).cut (st (m + 1)).h.nx) v q := by
    refine VRel.mono (fun d y hd => ?_) _ _ hv
    by_cases e : d = (st m).h.nx
    · subst e
      rw [B.add_self] at hd
      cases hd
      exact cut_some.2 ⟨by omega, B.add_self _ _ _⟩
    · rw [B.add_ne _ _ e] at hd
      obtain ⟨h1, h2⟩ := cut_some.1 hd
      exact cut_some.2 ⟨by omega, by rw [B.add_ne _ _ e]; exact h2⟩
  obtain ⟨k1, k2⟩ := I.slots D hx ho hle ht hv' hdst
  have hold : ∀ mb, mb < w.heap.size → w'.heap[mb]? = w.heap[mb]? := fun mb hm => by rw [hw, Array.getElem?_push_lt hm, Array.getElem?_eq_getElem hm]
  have hsz : w'.heap.size = w.heap.size + 1 := by rw [hw, Array.size_push]
  have hpn := D.nx_mono hpm (by omega)
  refine ⟨by simp [I.size], I.ple, I.pact, fun m' x' h1 h2 => (lis_set hil).2 (.inr (I.done m' x' h1 h2)), ?_, ?_, ?_, ?_, ?_, ?_, k1, k2, ?_, by rw [put_size]; exact I.asize, by rw [put_defers]; exact I.adef⟩
  · intro m' x' o' hx' ho' hc hl
    rcases (lis_set hil).1 hl with e | hl
    · have := D.once _ _ _ _ hx' hx e
      subst this
      rw [hx] at hx'
      cases hx'
      rw [ho] at ho'
      cases ho'
      exact absurd hc hc3
    · exact I.acts m' x' o' hx' ho' hc hl
  · intro i o' ho' hl k hk
    rcases (lis_set hil).1 hl with e | hl
    · subst e
      exact (lis_set hil).2 (.inr (hanc k hk))
    · exact (lis_set hil).2 (.inr (I.closed i o' ho' hl k hk))
  · intro d m' o' z' hb
    by_cases e : d = (st m).h.nx
    · subst e
      rw [B.add_self] at hb
      cases hb
      exact ⟨by omega, .inr ⟨m, x, hpm, hx, (lis_set hil).2 (.inl rfl), rfl, by omega⟩⟩
    · rw [B.add_ne _ _ e] at hb
      obtain ⟨h1, h2⟩ := I.blk d m' o' z' hb
      refine ⟨by omega, h2.imp id ?_⟩
      rintro ⟨q', x', h3, h4, h5, h6⟩
      exact ⟨q', x', h3, h4, (lis_set hil).2 (.inr h5), h6⟩
  · have : (β.add (st m).h.nx (w.heap.size, 0, z)).cut (st p).h.nx = β.cut (st p).h.nx := by
      funext d
      unfold B.cut
      split
      · exact B.add_ne _ _ (by omega)
      · rfl
    rw [this]
    exact hrel_push I.base hw
  · intro q' x' hp hx' hl hlt
    by_cases e : q' = m
    · subst e
      refine ⟨b, w.heap.size, z, ob, hh, B.add_self _ _ _, by rw [hw]; simp, ?_⟩
      cases b with
      | cells c => exact newOk_mono (cut_mono (Nat.le_refl _) hle) hn
      | mp es =>
        have := hmp es rfl
        subst this
        obtain ⟨en, cl, rfl, ⟨l, g1, g2, g3⟩, hst⟩ := hn
        have hl0 : l = [] := by
          simp only [List.map_nil, VRels] at g2
          exact List.map_eq_nil_iff.1 g2
        subst hl0
        refine ⟨rfl, en, cl, [], [], rfl, hst, g1, List.nodup_nil, fun k => ⟨fun h => (by cases h), ?_⟩, rfl⟩
        rintro ⟨⟨xk, hxk, hlk⟩, u, v', hE⟩
        obtain ⟨q₁, y₁, z₁, o₁, o₂, ty, f1, f2, f3, _, f5, f6, f7, _, _, _, f8⟩ := D.maker_of hE
        have hkl := D.entry_lt hE
        have := D.made_once (by omega) hml f2 f3 rfl hh
        subst this
        rw [hx] at f5
        cases f5
        rw [hxk] at f6
        cases f6
        rcases (lis_set hil).1 hlk with e | hlk
        · have := D.once _ _ _ _ hxk hx e
          omega
        · exact absurd (I.closed _ _ f7 hlk _ f8) hun
    · have e1 : x'.1 ≠ x.1 := fun h => e (D.once _ _ _ _ hx' hx h)
      have hl := ((lis_set hil).1 hl).resolve_left e1
      obtain ⟨b', m', z', ob', g1, g2, g3, g4⟩ := I.extra q' x' hp hx' hl hlt
      have hq'l : q' < L.length := (List.getElem?_eq_some_iff.1 hx').1
      have hne' : (st q').h.nx ≠ (st m).h.nx := by
        rcases Nat.lt_or_ge q' m with h | h
        · have := D.nx_mono (m := q' + 1) (m' := m) (by omega) (by omega)
          omega
        · have := D.nx_mono (m := m + 1) (m' := q') (by omega) (by omega)
          omega
      refine ⟨b', m', z', ob', g1, by rw [B.add_ne _ _ hne']; exact g2, by rw [hold _ (Array.getElem?_eq_some_iff.1 g3).1]; exact g3, nowOk_mono hle (fun k y hy hE => ?_) g4⟩
      rw [lis_set hil]
      constructor
      · rintro (h | h)
        · have := D.once _ _ _ _ hy hx h
          subst this
          obtain ⟨u, v, hE⟩ := hE
          exact absurd hE (hne _ _ _)
        · exact h
      · exact .inr
  · intro d d' m' o₁ z₁ o₂ z₂ h1 h2 hp
    by_cases e : d = (st m).h.nx
    · subst e
      by_cases e' : d' = (st m).h.nx
      · exact e'.symm
      · rw [B.add_self] at h1
        cases h1
        rw [B.add_ne _ _ e'] at h2
        have := (I.blk _ _ _ _ h2).1
        omega
    · rw [B.add_ne _ _ e] at h1
      by_cases e' : d' = (st m).h.nx
      · subst e'
        rw [B.add_self] at h2
        cases h2
        have := (I.blk _ _ _ _ h1).1
        omega
      · rw [B.add_ne _ _ e'] at h2
        exact I.inj _ _ _ _ _ _ _ h1 h2 hp
  · have hf := I.far
    have h0 := D.nx_mono (Nat.zero_le m) (by omega)
    have hws : w₀.heap.size ≤ w.heap.size := hf.frame.size
    refine ⟨hf.le.trans hle, ⟨by omega, ?_, hos.trans hf.frame.os, hout.trans hf.frame.output⟩, ?_⟩
    · intro m' hm' hne
      rw [hold m' (by omega)]
      exact hf.frame.rest m' hm' hne
    · intro d m' o' z' h1 h2
      by_cases e : d = (st m).h.nx
      · subst e
        rw [B.add_self] at h2
        cases h2
        exact ⟨h0, .inl hws⟩
      · rw [B.add_ne _ _ e] at h2
        exact hf.fresh d m' o' z' h1 h2
/-- one more operation that acts -/
theorem Inv.acted (I : Inv ρ P ops ms L st β₀ w₀ n df listed β p a w) {m : Nat} {x : Nat × Nat} {o : Oper} (hx : L[m]? = some x) (ho : ops[x.1]? = some o) (hun : ¬ lis listed x.1) (hanc : ∀ k, Nat.testBit (maskAt ms x.1) k = true → lis listed k)
    (hall : ∀ (q : Nat) (y : Nat × Nat), L[q]? = some y → q < m → lis listed y.1) (hc3 : cls o.op P = 3) (hne : ∀ d u v, ¬ EntryAt ops L st m d u v)
    {v : V} (ht : (st (m + 1)).t = ((st m).put o.dst v).t) {q : Value} {w' : World} {β₁ : B} (g : Goes ρ (β.cut (st m).h.nx) (st m).h w β₁ (st (m + 1)).h w') (hv : VRel ρ β₁ v q) (hdst : ∀ d, o.dst = some d → d < n) :
    ∃ β', Inv ρ P ops ms L st β₀ w₀ n df (listed.setIfInBounds x.1 true) β' (m + 1) (a.put o.dst q) w' := by
  have hil : x.1 < listed.size := by rw [I.size]; exact (Array.getElem?_eq_some_iff.1 ho).1
  have hml : m < L.length := (List.getElem?_eq_some_iff.1 hx).1
  have hpm := I.place D hx hun
  have hpn := D.nx_mono hpm (by omega)
  have hnn := D.nx_mono (m := m) (m' := m + 1) (by omega) (by omega)
  let β' : B := fun d => if d < (st (m + 1)).h.nx then β₁ d else β d
  have lo : ∀ {d}, d < (st (m + 1)).h.nx → β' d = β₁ d := fun h => if_pos h
  have hi : ∀ {d}, ¬ d < (st (m + 1)).h.nx → β' d = β d := fun h => if_neg h
  have hle : β.le β' := by
    intro d y hd
    by_cases h : d < (st (m + 1)).h.nx
    · rw [lo h]
      by_cases h' : d < (st m).h.nx
      · exact g.le d y (cut_some.2 ⟨h', hd⟩)
      · have := I.gap D hx hun (by omega) h
        rw [this] at hd
        cases hd
    · rw [hi h]; exact hd
  have hcut : β'.cut (st (m + 1)).h.nx = β₁ := by
    funext d
    unfold B.cut
    split
    · exact lo ‹_›
    · cases hb : β₁ d with
      | none => rfl
      | some y => exact absurd (g.dom d y hb) ‹_›
  obtain ⟨k1, k2⟩ := I.slots D hx ho hle ht (by rw [hcut]; exact hv) hdst
  have hfar := g.frame
  -- a block that this operation does not know
  have apart : ∀ d m' o' z', (st (m + 1)).h.nx ≤ d → β d = some (m', o', z') → (m' < w.heap.size ∧ ∀ d₂ o₂ z₂, (β.cut (st m).h.nx) d₂ ≠ some (m', o₂, z₂)) := by
    intro d m' o' z' hd hb
    refine ⟨(I.blk _ _ _ _ hb).1, fun d₂ o₂ z₂ h2 => ?_⟩
    obtain ⟨h3, h4⟩ := cut_some.1 h2
    have := I.inj _ _ _ _ _ _ _ hb h4 (by omega)
    omega
  refine ⟨β', by simp [I.size], by omega, .inr ⟨x, o, hx, ho, hc3⟩, ?_, ?_, ?_, ?_, ?_, ?_, ?_, k1, k2, ?_, by rw [put_size]; exact I.asize, by rw [put_defers]; exact I.adef⟩
  · intro m' x' hx' hlt
    by_cases e : m' = m
    · subst e
      rw [hx] at hx'
      cases hx'
      exact (lis_set hil).2 (.inl rfl)
    · exact (lis_set hil).2 (.inr (hall m' x' hx' (by omega)))
  · intro m' x' o' hx' ho' hc hl
    rcases (lis_set hil).1 hl with e | hl
    · have := D.once _ _ _ _ hx' hx e
      omega
    · have := I.acts m' x' o' hx' ho' hc hl
      omega
  · intro i o' ho' hl k hk
    rcases (lis_set hil).1 hl with e | hl
    · subst e
      exact (lis_set hil).2 (.inr (hanc k hk))
    · exact (lis_set hil).2 (.inr (I.closed i o' ho' hl k hk))
  · intro d m' o' z' hb
    by_cases h : d < (st (m + 1)).h.nx
    · rw [lo h] at hb
      exact ⟨g.rel.low d m' o' z' hb, .inl h⟩
    · rw [hi h] at hb
      obtain ⟨h1, h2⟩ := I.blk d m' o' z' hb
      have := hfar.size
      refine ⟨by omega, .inr ?_⟩
      rcases h2 with h2 | ⟨q', x', h3, h4, h5, h6, h7⟩
      · omega
      · have hq'l : q' < L.length := (List.getElem?_eq_some_iff.1 h4).1
        refine ⟨q', x', ?_, h4, (lis_set hil).2 (.inr h5), h6, h7⟩
        rcases Nat.lt_or_ge q' (m + 1) with h8 | h8
        · have := D.nx_mono (m := q' + 1) (m' := m + 1) (by omega) (by omega)
          omega
        · exact h8
  · rw [hcut]; exact g.rel
  · intro q' x' hp hx' hl hlt
    have e1 : x'.1 ≠ x.1 := fun h => by have := D.once _ _ _ _ hx' hx h; omega
    have hl := ((lis_set hil).1 hl).resolve_left e1
    obtain ⟨b', m', z', ob', g1, g2, g3, g4⟩ := I.extra q' x' (by omega) hx' hl hlt
    have hq'l : q' < L.length := (List.getElem?_eq_some_iff.1 hx').1
    have hqn := D.nx_mono (m := m + 1) (m' := q') (by omega) (by omega)
    obtain ⟨h5, h6⟩ := apart _ _ _ _ hqn g2
    refine ⟨b', m', z', ob', g1, by rw [hi (by omega)]; exact g2, by rw [hfar.rest m' h5 h6]; exact g3, nowOk_mono hle (fun k y hy hE => ?_) g4⟩
    rw [lis_set hil]
    constructor
    · rintro (h | h)
      · have := D.once _ _ _ _ hy hx h
        subst this
        obtain ⟨u, v, hE⟩ := hE
        exact absurd hE (hne _ _ _)
      · exact h
    · exact .inr
  · intro d d' m' o₁ z₁ o₂ z₂ h1 h2 hp
    rw [hi (by omega)] at h1
    by_cases h : d' < (st (m + 1)).h.nx
    · rw [lo h] at h2
      exfalso
      obtain ⟨h5, h6⟩ := apart _ _ _ _ hp h1
      cases hb : (β.cut (st m).h.nx) d' with
      | some y =>
        have := g.le _ _ hb
        rw [h2] at this
        cases this
        exact h6 _ _ _ hb
      | none =>
        rcases (g.fresh d' m' o₂ z₂ hb h2).2 with h7 | ⟨d₀, o₀, z₀, h7⟩
        · omega
        · exact h6 _ _ _ h7
    · rw [hi h] at h2
      exact I.inj _ _ _ _ _ _ _ h1 h2 (by omega)
  · have hf := I.far
    have h0 := D.nx_mono (Nat.zero_le m) (by omega)
    refine ⟨hf.le.trans hle, ⟨Nat.le_trans hf.frame.size hfar.size, ?_, hfar.os.trans hf.frame.os, hfar.output.trans hf.frame.output⟩, ?_⟩
    · intro m' hm' hne
      rw [hfar.rest m' (Nat.lt_of_lt_of_le hm' hf.frame.size) ?_]
      · exact hf.frame.rest m' hm' hne
      · intro d o' z' hb
        obtain ⟨_, hb⟩ := cut_some.1 hb
        cases h1 : β₀ d with
        | some y =>
          have := hf.le _ _ h1
          rw [hb] at this
          cases this
          exact hne _ _ _ h1
        | none =>
          rcases (hf.fresh d m' o' z' h1 hb).2 with h | ⟨d₀, o₀, z₀, h⟩
          · omega
          · exact hne _ _ _ h
    · intro d m' o' z' h1 h2
      by_cases h : d < (st (m + 1)).h.nx
      · rw [lo h] at h2
        cases hb : (β.cut (st m).h.nx) d with
        | some y =>
          have := g.le _ _ hb
          rw [h2] at this
          cases this
          exact hf.fresh d m' o' z' h1 (cut_some.1 hb).2
        | none =>
          obtain ⟨h3, h4⟩ := g.fresh d m' o' z' hb h2
          refine ⟨by omega, ?_⟩
          rcases h4 with h4 | ⟨d₀, o₀, z₀, h4⟩
          · exact .inl (Nat.le_trans hf.frame.size h4)
          · obtain ⟨_, h4⟩ := cut_some.1 h4
            cases h5 : β₀ d₀ with
            | some y =>
              have := hf.le _ _ h5
              rw [h4] at this
              cases this
              exact .inr ⟨d₀, _, _, h5⟩
            | none => exact (hf.fresh d₀ m' o₀ z₀ h5 h4).2
      · rw [hi h] at h2
        exact hf.fresh d m' o' z' h1 h2
/-- one more entry of a map literal -/
theorem Inv.entered (I : Inv ρ P ops ms L st β₀ w₀ n df listed β p a w) {m : Nat} {x : Nat × Nat} {o : Oper} (hx : L[m]? = some x) (ho : ops[x.1]? = some o) (hun : ¬ lis listed x.1) (hanc : ∀ k, Nat.testBit (maskAt ms x.1) k = true → lis listed k)
    {ty d : Nat} {s kk vv : Operand} {key val : V} (hop : o.op = .insert ty s kk vv) (hE : EntryAt ops L st m d key val) {kv vl : Value} (hk : VRel ρ (β.cut (st m).h.nx) key kv) (hvl : VRel ρ (β.cut (st m).h.nx) val vl) {mb ob zb : Nat} (hb : β d = some (mb, ob, zb))
    (ht : (st (m + 1)).t = ((st m).put o.dst undefV).t) (hdst : ∀ d, o.dst = some d → d < n) :
    ∃ w', (Instr.mapUpdate ty (.map (some mb)) kv vl).run P w = .ok () w' ∧ Inv ρ P ops ms L st β₀ w₀ n df (listed.setIfInBounds x.1 true) β p (a.put o.dst undef) w' := by
  have hil : x.1 < listed.size := by rw [I.size]; exact (Array.getElem?_eq_some_iff.1 ho).1
  have hml : m < L.length := (List.getElem?_eq_some_iff.1 hx).1
  have hpm := I.place D hx hun
  have hc4 : cls o.op P = 4 := by rw [hop]; rfl
  obtain ⟨k1, k2⟩ := I.slots D hx ho (.refl β) ht undef_rel hdst
  -- its map
  obtain ⟨q, y₁, z₁, o₁, o₂, ty₁, f1, f2, f3, f4, f5, f6, f7, f8, ⟨s₁, kk₁, vv₁, f9⟩, ⟨mr, f10⟩, f11⟩ := D.maker_of hE
  rw [hx] at f6
  cases f6
  rw [ho] at f7
  cases f7
  rw [hop] at f9
  cases f9
  obtain ⟨q', hpq, hqm, hd', hh'⟩ := I.home D hpm hE
  have := D.made_once (by omega) (by omega) f2 f3 hd' hh'
  subst this
  have hlq : lis listed y₁.1 := hanc _ f11
  have hinc : (st q).h.nx < (st (q + 1)).h.nx := by rw [f3]; exact Nat.lt_succ_self _
  obtain ⟨b, mb', z', obj, e1, e2, e3, e4⟩ := I.extra q y₁ hpq f5 hlq hinc
  rw [f2, hb] at e2
  cases e2
  have hbe : b = .mp [] := by
    rw [f3] at e1
    have := congrArg (fun h : H => h.bl.get (st q).h.nx) e1
    simp only [new_get_self] at this
    cases this
    rfl
  subst hbe
  obtain ⟨_, en, cl, l, ks, rfl, hst, hp, hnd, hmem, hal⟩ := e4
  rw [f2] at hmem hal
  have hmk : m ∉ ks := fun h => by
    obtain ⟨⟨x', hx', hl'⟩, _⟩ := (hmem m).1 h
    rw [hx] at hx'
    cases hx'
    exact hun hl'
  -- what lies in it, and the new key
  obtain ⟨es, hes1, hes2⟩ := Al.split (β := β) (β' := fun k => β.cut (st k).h.nx) hal fun k => cut_le β _
  obtain ⟨tm, ht1, ht2, ht3, ht4⟩ := D.entry_new hE hx ho hop
  have hno : ∀ e ∈ es, eqV P tm.1 key e.1 = .ok false := by
    intro e he
    obtain ⟨k, hk, hEk⟩ := Al.mem_right hes1 he
    have hkm : k ≠ m := fun h => hmk (h ▸ hk)
    rcases Nat.lt_or_ge k m with h | h
    · exact (ht4 k e.1 e.2 h hEk).1
    · obtain ⟨q₂, y₂, z₂, o₃, o₄, ty₂, g1, g2, g3, g4, g5, g6, g7, g8, ⟨s₂, kk₂, vv₂, g9⟩, ⟨mr₂, g10⟩, _⟩ := D.maker_of hEk
      have hkl := D.entry_lt hEk
      have := D.made_once (by omega) (by omega) f2 f3 g2 g3
      subst this
      rw [f5] at g5
      cases g5
      rw [f8] at g8
      cases g8
      rw [f10] at g10
      cases g10
      obtain ⟨tm', hu1, hu2, hu3, hu4⟩ := D.entry_new hEk g6 g7 g9
      rw [ht1] at hu1
      cases hu1
      exact (hu4 m key val (by omega) hE).2
  have hmr : MRel ρ β es en cl := by
    have hlen := (Al.mp hal hes1).1
    refine ⟨⟨l, hp, ?_, ?_⟩, hst⟩
    · refine VRels.mk (by simp [hlen]) fun i u v hu hv => ?_
      rw [List.getElem?_map, Option.map_eq_some_iff] at hu hv
      obtain ⟨e, he, rfl⟩ := hu
      obtain ⟨c, hc, rfl⟩ := hv
      exact (hes2 i e c he hc).1
    · refine VRels.mk (by simp [hlen]) fun i u v hu hv => ?_
      rw [List.getElem?_map, Option.map_eq_some_iff] at hu hv
      obtain ⟨e, he, rfl⟩ := hu
      obtain ⟨c, hc, rfl⟩ := hv
      exact (hes2 i e c he hc).2
  have hrun := put_new (P := P) (w := w) (vv := vl) ht1 ht2 ht3 (VRel.mono (cut_le β _) _ _ hk) hmr hno e3
  refine ⟨_, hrun, ?_⟩
  have hlt : mb < w.heap.size := (Array.getElem?_eq_some_iff.1 e3).1
  have hdp : (st p).h.nx ≤ d := by
    have := D.nx_mono hpq (by omega)
    omega
  have hne : ∀ k, k ≠ mb → (w.heap.setIfInBounds mb (Obj.map (en.push { key := kv, val := vl, born := cl }) (cl + 1)))[k]? = w.heap[k]? := fun k hk => by
    rw [Array.getElem?_setIfInBounds_ne (Ne.symm hk)]
  have other : ∀ d' mb' o' z', d' ≠ d → β d' = some (mb', o', z') → mb' ≠ mb := by
    rintro d' mb' o' z' hd hb' rfl
    exact hd (I.inj _ _ _ _ _ _ _ hb hb' hdp).symm
  refine ⟨by simp [I.size], I.ple, I.pact, fun m' x' h1 h2 => (lis_set hil).2 (.inr (I.done m' x' h1 h2)), ?_, ?_, ?_, ?_, ?_, I.inj, k1, k2, ?_, by rw [put_size]; exact I.asize, by rw [put_defers]; exact I.adef⟩
  · intro m' x' o' hx' ho' hc hl
    rcases (lis_set hil).1 hl with e | hl
    · have := D.once _ _ _ _ hx' hx e
      subst this
      rw [hx] at hx'
      cases hx'
      rw [ho] at ho'
      cases ho'
      omega
    · exact I.acts m' x' o' hx' ho' hc hl
  · intro i o' ho' hl k hk
    rcases (lis_set hil).1 hl with e | hl
    · subst e
      exact (lis_set hil).2 (.inr (hanc k hk))
    · exact (lis_set hil).2 (.inr (I.closed i o' ho' hl k hk))
  · intro d m' o' z hb
    obtain ⟨h1, h2⟩ := I.blk d m' o' z hb
    refine ⟨by simpa using h1, h2.imp id ?_⟩
    rintro ⟨q', x', h3, h4, h5, h6⟩
    exact ⟨q', x', h3, h4, (lis_set hil).2 (.inr h5), h6⟩
  · refine hrel_same I.base (by simp) fun d' m' o' z' h => hne m' ?_
    obtain ⟨h1, h2⟩ := cut_some.1 h
    exact other d' m' o' z' (by omega) h2
  · intro q' x' hp' hx' hl hlt'
    by_cases e : q' = q
    · subst e
      refine ⟨.mp [], mb, zb, .map (en.push { key := kv, val := vl, born := cl }) (cl + 1), f3, by rw [f2]; exact hb, by simp [hlt], rfl, _, _, l ++ [{ key := kv, val := vl, born := cl }], ks ++ [m], rfl, hst.push _ _, ?_, ?_, fun k => ?_, ?_⟩
      · rw [Array.toList_push]
        exact List.Perm.append_right _ hp
      · rw [List.nodup_append]
        refine ⟨hnd, by simp, fun a ha c hc => ?_⟩
        simp at hc
        subst hc
        rintro rfl
        exact hmk ha
      · rw [f2, List.mem_append, hmem k]
        constructor
        · rintro (⟨⟨y, hy, hly⟩, hEk⟩ | hk)
          · exact ⟨⟨y, hy, (lis_set hil).2 (.inr hly)⟩, hEk⟩
          · simp at hk
            subst hk
            exact ⟨⟨x, hx, (lis_set hil).2 (.inl rfl)⟩, key, val, hE⟩
        · rintro ⟨⟨y, hy, hly⟩, hEk⟩
          rcases (lis_set hil).1 hly with h | h
          · exact .inr (by simp [D.once _ _ _ _ hy hx h])
          · exact .inl ⟨⟨y, hy, h⟩, hEk⟩
      · rw [f2]
        exact Al.snoc (R := fun k (e : MapEntry) => ∃ x y, EntryAt ops L st k d x y ∧ VRel ρ (β.cut (st k).h.nx) x e.key ∧ VRel ρ (β.cut (st k).h.nx) y e.val) ⟨key, val, hE, hk, hvl⟩ hal
    · have e1' : x'.1 ≠ x.1 := by
        intro h
        have := D.once _ _ _ _ hx' hx h
        subst this
        rw [hx] at hx'
        cases hx'
        obtain ⟨o', ho', ⟨v, _, hs⟩, _⟩ := D.step q' x hx
        rw [ho] at ho'
        cases ho'
        rcases hs with ⟨_, _, hh⟩ | ⟨_, hs⟩
        · rw [hh] at hlt'; omega
        · rcases hs with ⟨hc, _⟩ | ⟨hc, _⟩ | ⟨hc, _⟩ | ⟨hc, _⟩ | ⟨_, _, hi⟩
          · omega
          · omega
          · omega
          · omega
          · obtain ⟨_, _, _, _, _, _, _, _, _, _, _, _, _, _, _, _, _, _, hh⟩ := insR_ok hi
            rw [hh] at hlt'
            exact absurd hlt' (Nat.lt_irrefl _)
      have hl := ((lis_set hil).1 hl).resolve_left e1'
      obtain ⟨b', m', z', ob', g1, g2, g3, g4⟩ := I.extra q' x' hp' hx' hl hlt'
      have hq'l : q' < L.length := (List.getElem?_eq_some_iff.1 hx').1
      have hnd' : (st q').h.nx ≠ d := fun h => e (D.made_once hq'l (by omega) h g1 f2 f3)
      refine ⟨b', m', z', ob', g1, g2, by simp only [hne m' (other _ _ _ _ hnd' g2)]; exact g3, nowOk_mono (.refl β) (fun k y hy hEk => ?_) g4⟩
      rw [lis_set hil]
      constructor
      · rintro (h | h)
        · have := D.once _ _ _ _ hy hx h
          subst this
          obtain ⟨u, v, hEk⟩ := hEk
          exact absurd (entry_map hEk hE) hnd'
        · exact h
      · exact .inr
  · have hf := I.far
    refine ⟨hf.le, ⟨by simpa using hf.frame.size, ?_, hf.frame.os, hf.frame.output⟩, hf.fresh⟩
    intro m' hm' hno'
    have : m' ≠ mb := by
      rintro rfl
      cases h0 : β₀ d with
      | some y =>
        have := hf.le _ _ h0
        rw [hb] at this
        cases this
        exact hno' _ _ _ h0
      | none =>
        rcases (hf.fresh d m' _ _ h0 hb).2 with h | ⟨d₀, o₀, z₀, h⟩
        · omega
        · exact hno' _ _ _ h
    simp only [hne m' this]
    exact hf.frame.rest m' hm' hno'
end
end Go.Dm
namespace Go.Dm
variable {ρ : Env} {P : Program}

def single (b : Nat) (c : Option Blk) : H := (⟨.e, 0⟩ : H).put b c
theorem single_self (b : Nat) (c : Option Blk) : (single b c).bl.get b = c := T.get_set_same _ _ _ _ (Nat.lt_succ_self _)
theorem single_ne {b d : Nat} (c : Option Blk) (h : d ≠ b) : (single b c).bl.get d = none := by
  unfold single H.put
  simp only
  rw [T.get_set_ne _ _ _ _ _ (Ne.symm h)]
  exact T.get_e d
theorem h0_get (d : Nat) : H0.bl.get d = none := T.get_e d
theorem hrel_none {β : B} {w : World} (hlow : ∀ d m o z, β d = some (m, o, z) → m < w.heap.size) : HRel ρ β H0 w :=
  ⟨fun d _ _ _ _ _ h => (by rw [h0_get] at h; cases h), fun d _ _ _ _ _ h => (by rw [h0_get] at h; cases h), fun d _ _ _ _ _ _ _ _ h _ => (by rw [h0_get] at h; cases h), hlow⟩
theorem hrel_single {γ δ : B} {h : H} {w : World} {b : Nat} (hr : HRel ρ γ h w) (hle : γ.le δ) (hb : ∀ x, δ b = some x → γ b = some x) (hlow : ∀ d m o z, δ d = some (m, o, z) → m < w.heap.size) : HRel ρ δ (single b (h.bl.get b)) w := by
  refine ⟨?_, ?_, ?_, hlow⟩
  · intro d m o z c hd hc
    by_cases e : d = b
    · subst e
      rw [single_self] at hc
      obtain ⟨mc, el, fr, h1, h2, h3, h4, h5, h6⟩ := hr.cells d m o z c (hb _ hd) hc
      exact ⟨mc, el, fr, h1, h2, h3, h4, h5, VRels.mono hle _ _ h6⟩
    · rw [single_ne _ e] at hc; cases hc
  · intro d m o z es hd hc
    by_cases e : d = b
    · subst e
      rw [single_self] at hc
      obtain ⟨en, cl, h1, h2⟩ := hr.maps d m o z es (hb _ hd) hc
      exact ⟨en, cl, h1, h2.mono hle⟩
    · rw [single_ne _ e] at hc; cases hc
  · intro d d' m o z o' z' _ _ s1 s2
    by_cases e : d = b
    · by_cases e' : d' = b
      · omega
      · rw [single_ne _ e'] at s2; cases s2
    · rw [single_ne _ e] at s1; cases s1
theorem hrel_made {γ δ : B} {w : World} {b m z : Nat} {bb : Blk} {ob : Obj} (hn : NewOk ρ γ bb ob z) (hle : γ.le δ) (hb : δ b = some (m, 0, z)) (hw : w.heap[m]? = some ob) (hlow : ∀ d m o z, δ d = some (m, o, z) → m < w.heap.size) : HRel ρ δ (single b (some bb)) w := by
  refine ⟨?_, ?_, ?_, hlow⟩
  · intro d m' o z' c hd hc
    by_cases e : d = b
    · subst e
      rw [single_self] at hc
      cases hc
      rw [hb] at hd
      cases hd
      obtain ⟨mc, el, fr, h1, h2, h3, h4, h5, h6⟩ := hn
      subst h1
      exact ⟨mc, el, fr, hw, h2, h3, by omega, h5, by simpa using VRels.mono hle _ _ h6⟩
    · rw [single_ne _ e] at hc; cases hc
  · intro d m' o z' es hd hc
    by_cases e : d = b
    · subst e
      rw [single_self] at hc
      cases hc
      rw [hb] at hd
      cases hd
      obtain ⟨en, cl, h1, h2⟩ := hn
      subst h1
      exact ⟨en, cl, hw, h2.mono hle⟩
    · rw [single_ne _ e] at hc; cases hc
  · intro d d' m o z o' z' _ _ s1 s2
    by_cases e : d = b
    · by_cases e' : d' = b
      · omega
      · rw [single_ne _ e'] at s2; cases s2
    · rw [single_ne _ e] at s1; cases s1
theorem touch_rel {β : B} {x : V} {v : Value} (ht : touches x = true) (h : VRel ρ β x v) : ∃ m o z, β (blkOf x) = some (m, o, z) := by
  cases x <;> simp only [touches] at ht <;> try cases ht
  all_goals simp only [VRel] at h
  · obtain ⟨m, o, z, h, _⟩ := h; exact ⟨m, o, z, h⟩
  · obtain ⟨m, o, z, _, _, h, _⟩ := h; exact ⟨m, o, z, h⟩
  · obtain ⟨m, o, z, h, _⟩ := h; exact ⟨m, o, z, h⟩
theorem alloc_mp {o : Op} {ev : Operand → R V} {nx : Nat} {v : V} {es : List (V × V)} (e : allocOp o P ev nx = .ok (v, .mp es)) : es = [] := by
  cases o <;> simp only [allocOp] at e <;> try cases e
  case alloc t =>
    obtain ⟨z, _, e⟩ := R.bind_ok e
    obtain ⟨_, e⟩ := cond_ok e
    cases e
  case box t x =>
    obtain ⟨z, _, e⟩ := R.bind_ok e
    obtain ⟨_, e⟩ := cond_ok e
    cases e
  case buildSlice t n ps =>
    obtain ⟨_, _, e⟩ := R.bind_ok e
    obtain ⟨_, _, e⟩ := R.bind_ok e
    obtain ⟨_, _, e⟩ := R.bind_ok e
    obtain ⟨_, e⟩ := cond_ok e
    obtain ⟨_, _, e⟩ := R.bind_ok e
    obtain ⟨_, _, e⟩ := R.bind_ok e
    cases e
  case makeSlice t l c =>
    obtain ⟨_, _, e⟩ := R.bind_ok e
    obtain ⟨_, _, e⟩ := R.bind_ok e
    obtain ⟨_, _, e⟩ := R.bind_ok e
    obtain ⟨_, _, e⟩ := R.bind_ok e
    obtain ⟨_, _, e⟩ := R.bind_ok e
    obtain ⟨_, _, e⟩ := R.bind_ok e
    obtain ⟨_, _, e⟩ := R.bind_ok e
    obtain ⟨_, _, e⟩ := R.bind_ok e
    obtain ⟨_, e⟩ := cond_ok e
    cases e
  case makeMap t r =>
    cases r <;> simp only at e <;> cases e
    rfl
  case convert s d x =>
    obtain ⟨_, e⟩ := cond_ok e
    obtain ⟨_, _, e⟩ := R.bind_ok e
    obtain ⟨_, e⟩ := cond_ok e
    obtain ⟨y, _, e⟩ := R.bind_ok e
    unfold toBytes at e
    split at e
    · obtain ⟨_, e⟩ := cond_ok e
      cases e
    · cases e
theorem first_of (A : Nat → Prop) : ∀ n, (∀ q, q < n → ¬ A q) ∨ ∃ q, q < n ∧ A q ∧ ∀ q', q' < q → ¬ A q'
  | 0 => .inl fun q h => by omega
  | n + 1 => by
    rcases first_of A n with h | ⟨q, h1, h2, h3⟩
    · by_cases ha : A n
      · exact .inr ⟨n, by omega, ha, h⟩
      · refine .inl fun q hq => ?_
        by_cases e : q = n
        · rw [e]; exact ha
        · exact h q (by omega)
    · exact .inr ⟨q, by omega, h2, h3⟩
section
variable {call : CallD} {ops : Array Oper} {ms : List Nat} {L : List (Nat × Nat)} {st : Nat → Act} {ss : Nat → List H}
variable (D : Dr P call ops ms L st ss) {β₀ : B} {w₀ : World} {n : Nat} {df : List Deferred} {listed : Array Bool} {β : B} {p : Nat} {a : Go.Act} {w : World}
include D
theorem Inv.evs (I : Inv ρ P ops ms L st β₀ w₀ n df listed β p a w) {m : Nat} {x : Nat × Nat} {o : Oper} (hx : L[m]? = some x) (ho : ops[x.1]? = some o) (hun : ¬ lis listed x.1) (hanc : ∀ k, Nat.testBit (maskAt ms x.1) k = true → lis listed k) :
    ∀ y u, only o.op (evalO (st m).t) y = .ok u → VRel ρ (β.cut (st m).h.nx) u (a.eval y) := by
  intro y u e
  obtain ⟨h1, h2⟩ := only_ok e
  refine evalO_at (fun k z hk hz => ?_) h2
  subst hk
  exact I.sees D hx ho hun hanc (.inl (opTmps_mem h1)) hz
/-- one more operation that looks -/
theorem Inv.looked (I : Inv ρ P ops ms L st β₀ w₀ n df listed β p a w) {m : Nat} {x : Nat × Nat} {o : Oper} (hx : L[m]? = some x) (ho : ops[x.1]? = some o) (hun : ¬ lis listed x.1) (hanc : ∀ k, Nat.testBit (maskAt ms x.1) k = true → lis listed k)
    (hc : cls o.op P = 1) {v : V} (he : readOp o.op P (evalO (st m).t) (st m).h = .ok v)
    (hback : ∀ x', evalO (st m).t (eyeOf o.op) = .ok x' → ∀ r, r < x.2 → ∀ h, (ss m)[r]? = some h → h.nx ≤ blkOf x' ∨ readOp o.op P (evalO (st m).t) h = .ok v) :
    ∃ q, (execOp a.eval o).run P w = .ok (.value q) w ∧ VRel ρ (β.cut (st m).h.nx) v q := by
  have hml : m < L.length := (List.getElem?_eq_some_iff.1 hx).1
  have hpm := I.place D hx hun
  have hev := I.evs D hx ho hun hanc
  have hcong : ∀ h, readOp o.op P (evalO (st m).t) h = readOp o.op P (only o.op (evalO (st m).t)) h := fun h => read_congr (only_eq _ _) h
  rw [hcong] at he
  obtain ⟨⟨y, hy⟩, loc⟩ := read_local he
  have hlow : ∀ d m' o z, (β.cut (st m).h.nx) d = some (m', o, z) → m' < w.heap.size := fun d m' o z h => (I.blk d m' o z (cut_some.1 h).2).1
  by_cases ht : touches y = true
  · obtain ⟨mb, ob, zb, hb⟩ := touch_rel ht (hev _ _ hy)
    obtain ⟨hbn, hb'⟩ := cut_some.1 hb
    generalize hbb : blkOf y = b at hb hbn hb'
    -- entries are told from this look
    have htells : ∀ (k : Nat) (u v : V) (z : Nat × Nat), EntryAt ops L st k b u v → L[k]? = some z → (lis listed z.1 ↔ k < m) := by
      intro k u v z hE hz
      obtain ⟨z', oz, ty, s, kk, vv, g1, g2, g3, _⟩ := hE
      rw [hz] at g1
      cases g1
      rcases D.tells x.1 o ho (.inl hc) z.1 oz g2 (by rw [g3]; rfl) with h | h
      · obtain ⟨q, y', h1, h2, h3⟩ := D.before m x hx _ h
        have := D.once _ _ _ _ hz h2 h3.symm
        subst this
        exact ⟨fun _ => h1, fun _ => hanc _ h⟩
      · obtain ⟨q, y', h1, h2, h3⟩ := D.before k z hz _ h
        have := D.once _ _ _ _ hx h2 h3.symm
        subst this
        exact ⟨fun hl => absurd (I.closed _ _ g2 hl _ h) hun, fun hlt => by omega⟩
    have fin : ∀ r, p ≤ r → r ≤ m → b < (st r).h.nx → (∀ (q : Nat) (z : Nat × Nat) (oz : Oper), p ≤ q → q < r → b < (st q).h.nx → L[q]? = some z → ops[z.1]? = some oz → cls oz.op P ≠ 3) →
        (∀ (k : Nat) (u v : V) (z : Nat × Nat), EntryAt ops L st k b u v → L[k]? = some z → (lis listed z.1 ↔ k < r)) → readOp o.op P (only o.op (evalO (st m).t)) (st r).h = .ok v → ∃ q, (execOp a.eval o).run P w = .ok (.value q) w ∧ VRel ρ (β.cut (st m).h.nx) v q := by
      intro r hpr hrm hbr hno htr hh
      obtain ⟨g1, g2⟩ := I.block_at D hpr (by omega) hbr hno htr hb'
      have hle : (β.cut (st r).h.nx).le (β.cut (st m).h.nx) := cut_mono (D.nx_mono hrm (by omega)) (.refl β)
      have hs : HRel ρ (β.cut (st m).h.nx) (single b ((st r).h.bl.get b)) w := by
        refine ⟨?_, ?_, ?_, hlow⟩
        · intro d mb' o' z' c hd hcc
          by_cases e : d = b
          · subst e
            rw [single_self] at hcc
            rw [hb] at hd
            cases hd
            obtain ⟨mc, el, fr, h1, h2, h3, h4, h5, h6⟩ := g1 c hcc
            exact ⟨mc, el, fr, h1, h2, h3, h4, h5, VRels.mono hle _ _ h6⟩
          · rw [single_ne _ e] at hcc; cases hcc
        · intro d mb' o' z' es hd hcc
          by_cases e : d = b
          · subst e
            rw [single_self] at hcc
            rw [hb] at hd
            cases hd
            obtain ⟨en, cl, h1, h2⟩ := g2 es hcc
            exact ⟨en, cl, h1, h2.mono hle⟩
          · rw [single_ne _ e] at hcc; cases hcc
        · intro d d' m o z o' z' _ _ s1 s2
          by_cases e : d = b
          · by_cases e' : d' = b
            · omega
            · rw [single_ne _ e'] at s2; cases s2
          · rw [single_ne _ e] at s1; cases s1
      refine read_sound hev hs ((read_local hh).2 fun x' hx' _ => ?_)
      rw [hy] at hx'
      cases hx'
      rw [hbb, single_self]
    rcases first_of (fun q => p ≤ q ∧ b < (st q).h.nx ∧ ∃ (z : Nat × Nat) (oz : Oper), L[q]? = some z ∧ ops[z.1]? = some oz ∧ cls oz.op P = 3) m with hno | ⟨q, g1, ⟨g2, gb, z, oz, g3, g4, g5⟩, g6⟩
    · exact fin m hpm (Nat.le_refl _) hbn (fun q z oz k1 k2 k3 k4 k5 k6 => hno q k2 ⟨k1, k3, z, oz, k4, k5, k6⟩) htells he
    · rcases D.looks m x o hx ho hc q z oz g1 g3 g4 g5 with h | ⟨r, hr, hs⟩
      · have := I.acts q z oz g3 g4 g5 (hanc _ h)
        omega
      · rcases hback y (only_ok hy).2 r hr _ hs with h | h
        · rw [hbb] at h
          omega
        · rw [hcong] at h
          refine fin q g2 (by omega) gb (fun q' z' oz' k1 k2 k3 k4 k5 k6 => g6 q' k2 ⟨k1, k3, z', oz', k4, k5, k6⟩) (fun k u v z' hE hz' => ?_) h
          rw [htells k u v z' hE hz']
          constructor
          · intro hkm
            rcases Nat.lt_or_ge k q with hkq | hkq
            · exact hkq
            · exfalso
              obtain ⟨q₁, _, _, _, _, _, f1, f2, f3, f4, _⟩ := D.maker_of hE
              have hkl := D.entry_lt hE
              have hq1 : q₁ < q := by
                rcases Nat.lt_or_ge q₁ q with h' | h'
                · exact h'
                · have := D.nx_mono h' (by omega)
                  omega
              have hkq' : k ≠ q := by
                rintro rfl
                obtain ⟨z₂, o₂, ty, s, kk, vv, c1, c2, c3, _⟩ := hE
                rw [g3] at c1
                cases c1
                rw [g4] at c2
                cases c2
                rw [c3] at g5
                cases g5
              exact f4 q z oz (by omega) (by omega) g3 g4 g5
          · intro hkq
            omega
  · refine read_sound hev (hrel_none hlow) (loc fun x' hx' h => ?_)
    rw [hy] at hx'
    cases hx'
    exact absurd h ht
/-- any operation that may come next -/
theorem Inv.next (hc : CallOk ρ P call) (hdst : dstsOk n ops.toList = true) (I : Inv ρ P ops ms L st β₀ w₀ n df listed β p a w) {i : Nat} (hi : i ∈ Region.ready .any ops listed) {K : Go.Act → World → Prop} {Q : Exit → Go.Act → World → Prop}
    (hK : ∀ β' p' a' w', Inv ρ P ops ms L st β₀ w₀ n df (listed.setIfInBounds i true) β' p' a' w' → K a' w') : wpOp P ops Q i K a w := by
  obtain ⟨h0, o, ho, hedges⟩ := mem_ready.1 hi
  have hio : i < ops.size := (Array.getElem?_eq_some_iff.1 ho).1
  have hun : ¬ lis listed i := by
    unfold lis
    have hlt : i < listed.size := by rw [I.size]; exact hio
    simp [hlt] at h0 ⊢
    exact h0
  have hanc : ∀ k, Nat.testBit (maskAt ms i) k = true → lis listed k := by
    intro k hk
    obtain ⟨e, he, hb, h⟩ := D.mask i o ho k hk
    have hl : lis listed e.on := hedges e he hb
    rcases h with rfl | h
    · exact hl
    · have hlt : e.on < ops.size := by
        rw [← I.size]
        unfold lis at hl
        rcases Nat.lt_or_ge e.on listed.size with h' | h'
        · exact h'
        · simp [Array.getElem?_eq_none h'] at hl
      exact I.closed e.on _ (Array.getElem?_eq_getElem hlt) hl k h
  obtain ⟨m, x, hx, rfl⟩ := D.full i hio
  have hml : m < L.length := (List.getElem?_eq_some_iff.1 hx).1
  have hpm := I.place D hx hun
  obtain ⟨o', ho', ⟨v, ht, hs⟩, hnx, _⟩ := D.step m x hx
  rw [ho] at ho'
  cases ho'
  have hev := I.evs D hx ho hun hanc
  have hd : ∀ d, o.dst = some d → d < n := fun d h => dstsOk_mem hdst o (List.mem_of_getElem? (by rw [Array.getElem?_toList]; exact ho)) d h
  have hwant : ∀ b, wantedR ops.toList (st m).t o = .ok b → Region.wanted o (yielded ops a.tmps) = b := fun b hb => wanted_at (fun d hd y hy => I.sees D hx ho hun hanc (.inr hd) hy) hb
  have hacts : cls o.op P = 3 → ∀ (q : Nat) (y : Nat × Nat), L[q]? = some y → q < m → lis listed y.1 := fun h3 q y hy hq => hanc _ (D.acts m x o hx ho h3 q y hq hy)
  have hne : cls o.op P ≠ 4 → ∀ d u v, ¬ EntryAt ops L st m d u v := by
    rintro h4 d u v ⟨z, oz, ty, s, kk, vv, g1, g2, g3, _⟩
    rw [hx] at g1
    cases g1
    rw [ho] at g2
    cases g2
    rw [g3] at h4
    exact h4 rfl
  have htell : cls o.op P = 3 → ∀ (k d : Nat) (u v : V) (z : Nat × Nat), EntryAt ops L st k d u v → L[k]? = some z → lis listed z.1 → k < m := by
    rintro h3 k d u v z ⟨z', oz, ty, s, kk, vv, g1, g2, g3, _⟩ hz hlz
    rw [hz] at g1
    cases g1
    rcases D.tells x.1 o ho (.inr h3) z.1 oz g2 (by rw [g3]; rfl) with h | h
    · obtain ⟨q, y', h1, h2, h3⟩ := D.before m x hx _ h
      have := D.once _ _ _ _ hz h2 h3.symm
      omega
    · exact absurd (I.closed _ _ g2 hlz _ h) hun
  unfold wpOp
  simp only [ho]
  rcases hs with ⟨hb, rfl, hh⟩ | ⟨hb, hs⟩
  · rw [hwant _ hb]
    simp only [Bool.false_eq_true, if_false]
    by_cases h3 : cls o.op P = 3
    · have hr := I.upto D hpm (by omega) (hacts h3) (htell h3)
      have hg : Goes ρ (β.cut (st m).h.nx) (st m).h w (β.cut (st m).h.nx) (st (m + 1)).h w := by
        rw [hh]
        exact .refl hr fun d y hy => (cut_some.1 hy).1
      obtain ⟨β', I'⟩ := I.acted D hx ho hun hanc (hacts h3) h3 (hne (by omega)) ht hg undef_rel hd
      exact hK _ _ _ _ I'
    · refine hK _ _ _ _ (I.calm D hx ho hun hanc ht hh undef_rel hd h3 ?_)
      rintro d u v ⟨z, oz, ty, s, kk, vv, g1, g2, g3, g4, _⟩
      rw [hx] at g1
      cases g1
      rw [ho] at g2
      cases g2
      rw [hb] at g4
      cases g4
  · rw [hwant _ hb]
    simp only [if_true]
    left
    rcases hs with ⟨hcl, hv, hh⟩ | ⟨hcl, hv, hh, hback⟩ | ⟨hcl, b, hv, hh⟩ | ⟨hcl, hv⟩ | ⟨hcl, rfl, hv⟩
    · rw [pure_congr (only_eq o.op _)] at hv
      obtain ⟨q, h1, h2⟩ := pure_sound hev hv w
      unfold Oper.wp
      rw [h1]
      exact hK _ _ _ _ (I.calm D hx ho hun hanc ht hh h2 hd (by omega) (hne (by omega)))
    · obtain ⟨q, h1, h2⟩ := I.looked D hx ho hun hanc hcl hv hback
      unfold Oper.wp
      rw [h1]
      exact hK _ _ _ _ (I.calm D hx ho hun hanc ht hh h2 hd (by omega) (hne (by omega)))
    · rw [alloc_congr (only_eq o.op _)] at hv
      obtain ⟨q, w', ob, z, h1, h2, h3, h4, h5, h6⟩ := alloc_sound hev hv w
      unfold Oper.wp
      rw [h1]
      exact hK _ _ _ _ (I.made D hx ho hun hanc ht hh h2 h3 h4 h5 (fun es he => alloc_mp (he ▸ hv)) (hne (by omega)) h6 hd (by omega))
    · rw [eff_congr (only_eq o.op _)] at hv
      have hr := I.upto D hpm (by omega) (hacts hcl) (htell hcl)
      have hx' := eff_sound hc hev hr (fun d y hy => (cut_some.1 hy).1) hv
      refine wp_of_acts hx' fun q w' hq => ?_
      obtain ⟨β₁, g1, g2⟩ := hq
      obtain ⟨β', I'⟩ := I.acted D hx ho hun hanc (hacts hcl) hcl (hne (by omega)) ht g1 g2 hd
      exact hK _ _ _ _ I'
    · obtain ⟨ty, s, kk, vv, bb, key, val, tm, es, i1, i2, i3, i4, i5, i6, i7, i8, i9, i10⟩ := insR_ok hv
      have mem : ∀ y, y = s ∨ y = kk ∨ y = vv → y ∈ o.op.operands.toList := by
        intro y hy
        rw [i1]
        rcases hy with rfl | rfl | rfl <;> simp [Op.operands]
      have on : ∀ {y u}, y ∈ o.op.operands.toList → evalO (st m).t y = .ok u → VRel ρ (β.cut (st m).h.nx) u (a.eval y) := by
        intro y u hy hu
        exact hev y u (by rw [← only_eq o.op (evalO (st m).t) y hy]; exact hu)
      have r1 := on (mem s (.inl rfl)) i2
      have r2 := on (mem kk (.inr (.inl rfl))) i3
      have r3 := on (mem vv (.inr (.inr rfl))) i4
      obtain ⟨mb, ob, zb, hbb, hse⟩ := vrel_m r1
      obtain ⟨_, hbb⟩ := cut_some.1 hbb
      have hE : EntryAt ops L st m bb key val := ⟨x, o, ty, s, kk, vv, hx, ho, i1, hb, i2, i3, i4⟩
      obtain ⟨w', g1, I'⟩ := I.entered D hx ho hun hanc i1 hE r2 r3 hbb ht hd
      have hrun : (execOp a.eval o).run P w = .ok .skip w' := by
        obtain ⟨dst, op, ty', pos, after, guard⟩ := o
        simp only at i1
        subst i1
        simp only [execOp, Sem.run_bind, hse, g1, Result.andThen_ok, Sem.run_pure]
      unfold Oper.wp
      rw [hrun]
      exact hK _ _ _ _ I'
/-- when nothing may come next, all is done -/
theorem Inv.stuck (I : Inv ρ P ops ms L st β₀ w₀ n df listed β p a w) (h : Region.ready .any ops listed = []) : ∀ (m : Nat) (x : Nat × Nat), L[m]? = some x → lis listed x.1 := by
  intro m
  induction m using Nat.strongRecOn with
  | _ m ih =>
    intro x hx
    by_cases hl : lis listed x.1
    · exact hl
    · exfalso
      obtain ⟨o, ho, _⟩ := D.step m x hx
      have hio : x.1 < ops.size := (Array.getElem?_eq_some_iff.1 ho).1
      have : x.1 ∈ Region.ready .any ops listed := by
        refine mem_ready.2 ⟨?_, o, ho, fun e he hb => ?_⟩
        · have hlt : x.1 < listed.size := by rw [I.size]; exact hio
          unfold lis at hl
          simp [hlt] at hl ⊢
          exact hl
        · obtain ⟨m', y, hm', hy, hye⟩ := D.edges m x o hx ho e he hb
          have := ih m' hm' y hy
          rw [hye] at this
          exact this
      rw [h] at this
      cases this
/-- the end -/
theorem Inv.goes (I : Inv ρ P ops ms L st β₀ w₀ n df listed β p a w) (hd₀ : Dom β₀ (st 0).h) (hall : ∀ (m : Nat) (x : Nat × Nat), L[m]? = some x → lis listed x.1) :
    ∃ β', Goes ρ β₀ (st 0).h w₀ β' (st L.length).h w ∧ ARel ρ β' (st L.length).t a.tmps := by
  refine ⟨β.cut (st L.length).h.nx, ⟨?_, ?_, ?_, ?_, ?_, ?_⟩, ?_⟩
  · intro d y hy
    have h1 := hd₀ d y hy
    have h2 := D.nx_mono (Nat.zero_le L.length) (Nat.le_refl _)
    exact cut_some.2 ⟨by omega, I.far.le _ _ hy⟩
  · exact I.upto D I.ple (Nat.le_refl _) (fun q x hx _ => hall q x hx) fun k _ _ _ _ hE _ _ => D.entry_lt hE
  · exact fun d y hy => (cut_some.1 hy).1
  · exact D.nx_mono (Nat.zero_le _) (Nat.le_refl _)
  · exact I.far.frame
  · intro d m o z h1 h2
    exact I.far.fresh d m o z h1 (cut_some.1 h2).2
  · intro d v hv
    by_cases hk : ∃ (k : Nat) (o' : Oper), ops[k]? = some o' ∧ o'.dst = some d
    · obtain ⟨k, o', ho', hd'⟩ := hk
      obtain ⟨q, y, hy, rfl⟩ := D.full k (Array.getElem?_eq_some_iff.1 ho').1
      have hql : q < L.length := (List.getElem?_eq_some_iff.1 hy).1
      rw [D.wrote hy ho' hd' hql (Nat.le_refl _)] at hv
      obtain ⟨u, h1, h2⟩ := I.new q y o' d v hy ho' hd' (hall q y hy) hv
      exact ⟨u, h1, VRel.mono (cut_mono (D.nx_mono (by omega) (Nat.le_refl _)) (.refl β)) _ _ h2⟩
    · have hs : (st L.length).t.get d = (st 0).t.get d := D.slot (Nat.zero_le _) (Nat.le_refl _) fun r z oz _ hr hz hoz hdz => hk ⟨_, _, hoz, hdz⟩
      rw [hs] at hv
      obtain ⟨u, h1, h2⟩ := I.old d v (fun k o'' hk' hdk _ => hk ⟨_, _, hk', hdk⟩) hv
      exact ⟨u, h1, VRel.mono (cut_mono (D.nx_mono (Nat.zero_le _) (Nat.le_refl _)) (.refl β)) _ _ h2⟩
theorem any_of_inv (hc : CallOk ρ P call) (hdst : dstsOk n ops.toList = true) (hd₀ : Dom β₀ (st 0).h) {Q : Exit → Go.Act → World → Prop}
    (hQ : ∀ a w, (∃ β', Goes ρ β₀ (st 0).h w₀ β' (st L.length).h w ∧ ARel ρ β' (st L.length).t a.tmps) → a.tmps.size = n → a.defers = df → Q .normal a w) :
    ∀ (fuel : Nat) (listed : Array Bool) (β : B) (p : Nat) (a : Go.Act) (w : World), Inv ρ P ops ms L st β₀ w₀ n df listed β p a w → listed.toList.countP (fun b => !b) ≤ fuel → wpAny P .any ops Q fuel listed a w
  | 0, listed, β, p, a, w, I, hcount => by
    have hzero : ∀ i, i < ops.size → lis listed i := by
      intro i hi
      have h1 : listed.toList.countP (fun b => !b) = 0 := by omega
      rw [List.countP_eq_zero] at h1
      have hlt : i < listed.size := by rw [I.size]; exact hi
      have := h1 listed[i] (by simp)
      unfold lis
      simp [hlt] at this ⊢
      exact this
    have hr : Region.ready .any ops listed = [] := by
      apply List.eq_nil_iff_forall_not_mem.2
      intro j hj
      obtain ⟨h0, o, ho, _⟩ := mem_ready.1 hj
      have hio := (Array.getElem?_eq_some_iff.1 ho).1
      have := hzero j hio
      have hlt : j < listed.size := by rw [I.size]; exact hio
      unfold lis at this
      simp [hlt] at this h0
      rw [this] at h0
      cases h0
    exact ⟨hr, hQ _ _ (I.goes D hd₀ (I.stuck D hr)) I.asize I.adef⟩
  | fuel + 1, listed, β, p, a, w, I, hcount => by
    refine ⟨fun hr => hQ _ _ (I.goes D hd₀ (I.stuck D hr)) I.asize I.adef, fun i hi => ?_⟩
    refine I.next D hc hdst hi fun β' p' a' w' I' => any_of_inv hc hdst hd₀ hQ fuel _ _ _ _ _ I' ?_
    obtain ⟨h0, o, ho, _⟩ := mem_ready.1 hi
    have hlt : i < listed.size := by rw [I.size]; exact (Array.getElem?_eq_some_iff.1 ho).1
    simp [hlt] at h0
    rw [Array.toList_setIfInBounds, List.countP_set (by simpa using hlt)]
    simp [h0]
    have : 0 < listed.toList.countP (fun b => !b) := by
      rw [List.countP_pos_iff]
      exact ⟨listed[i], by simp, by simp [h0]⟩
    simp at this hcount
    omega
end
/-- a region whose order is open -/
theorem draw_sound (hm : P.follows .mixedOrders = true) {call : CallD} (hc : CallOk ρ P call) {ops : Array Oper} {Q : Exit → Go.Act → World → Prop} {id : Nat} {β : B} {w : World} {A A' : Act} {a : Go.Act} (hdst : dstsOk a.tmps.size ops.toList = true) (hA : AOk ρ β A a w) (e : regionR true P call ops.toList A = .ok A')
    (hQ : ∀ a' w', AGoes ρ β A a w A' a' w' → Q .normal a' w') : (Code.region id ops true).wp P Q a w := by
  unfold regionR at e
  simp only at e
  split at e
  · rename_i L hp
    obtain ⟨ms, st, ss, D, h0, hn⟩ := plan_dr hp e
    refine wp_region_any hm ?_
    have hr0 : HRel ρ β A.h { w with drawn := w.drawn + 1 } := hA.rel.of_heap rfl
    refine any_of_inv (β₀ := β) (w₀ := { w with drawn := w.drawn + 1 }) (n := a.tmps.size) (df := a.defers) D hc hdst (by rw [h0]; exact hA.dom) (fun a' w' g h1 h2 => hQ a' w' ?_) ops.size _ β 0 a _ ?_ ?_
    · obtain ⟨β', g, k⟩ := g
      rw [h0, hn] at g
      rw [hn] at k
      refine ⟨⟨β', ⟨g.le, g.rel, g.dom, g.nx, ⟨g.frame.size, g.frame.rest, g.frame.os, g.frame.output⟩, g.fresh⟩, k⟩, h1, h2⟩
    · have hcut : β.cut (st 0).h.nx = β := cut_all fun d x h => by rw [h0]; exact hA.dom d x h
      have hnl : ∀ i, ¬ lis (Array.replicate ops.size false) i := by
        intro i
        unfold lis
        rcases Nat.lt_or_ge i ops.size with h | h
        · simp [h]
        · simp [h]
      refine ⟨by simp, Nat.zero_le _, .inl rfl, fun _ _ _ h => by omega, fun m x o _ _ _ h => absurd h (hnl _), fun i o _ h => absurd h (hnl _), ?_, by rw [hcut, h0]; exact hr0, fun q x _ _ h => absurd h (hnl _), ?_, fun q x o d v _ _ _ h => absurd h (hnl _), ?_, ?_, rfl, rfl⟩
      · intro d m o z h
        exact ⟨hr0.low d m o z h, .inl (by rw [h0]; exact hA.dom d _ h)⟩
      · intro d d' m o z o' z' h1 _ h2
        have := hA.dom d _ h1
        rw [h0] at h2
        omega
      · intro d v _ hv
        rw [h0] at hv
        rw [hcut]
        exact hA.regs d v hv
      · exact ⟨.refl β, .refl β _, fun d m o z h1 h2 => by rw [h1] at h2; cases h2⟩
    · exact Nat.le_trans List.countP_le_length (by simp)
  · cases e
end Go.Dm
