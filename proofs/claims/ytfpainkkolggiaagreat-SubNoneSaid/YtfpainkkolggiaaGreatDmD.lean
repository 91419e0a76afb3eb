/- Maps: lookups and stores; then all looks. -/
import Derived.Test.YtfpainkkolggiaaGreatDmC
import Derived.Calls
import Derived.Orders
namespace Go.Dm
variable {ρ : Env} {β : B} {P : Program} {h : H} {w : World}

theorem tMap_ok {t : Nat} {y : Nat × Nat} (e : tMap P t = .ok y) : P.underlying t = some (.map y.1 y.2) := by
  unfold tMap at e
  split at e
  · rename_i hu; cases e; exact hu
  · cases e
theorem run_getMap {m : Nat} {entries : Array MapEntry} {clock : Nat} (e : w.heap[m]? = some (.map entries clock)) : (getObj m).run P w = .ok (.map entries clock) w := by
  simp only [getObj, Sem.run, e]
theorem vrel_m {r : Nat} {v : Value} (hx : VRel ρ β (.m r) v) : ∃ m o z, β r = some (m, o, z) ∧ v = .map (some m) := by simpa [VRel] using hx
theorem keyKd_under {kt : Nat} (hk : keyKd P kt = true) : ∃ d, P.underlying kt = some d := by
  rcases keyKd_or hk with h | ⟨n, h⟩
  · obtain ⟨_, _, hor⟩ := keyAtomic_ok h
    rcases hor with ⟨_, hu⟩ | ⟨_, q, hu⟩ | ⟨_, hu⟩ <;> exact ⟨_, hu⟩
  · obtain ⟨⟨d, hu, _⟩, _⟩ := tAgg_some h
    exact ⟨d, hu⟩
theorem lookup_sound {t : Nat} {y : Nat × Nat} {x k r : V} {ok : Bool} {q : Option V} (hr : HRel ρ β h w) (ht : tMap P t = .ok y) (hk : keyKd P y.1 = true) (e : lookMap P y.1 h x k = .ok q) (e2 : lookEnd P y.2 ok q = .ok r) {v kv : Value} (hx : VRel ρ β x v) (hkv : VRel ρ β k kv) :
    ∃ u, (Instr.lookup t v kv ok).run P w = .ok u w ∧ VRel ρ β r u := by
  have hu := tMap_ok ht
  have fin : ∀ (b : Bool) (x : V) (u : Value), VRel ρ β x u → VRel ρ β (bif ok then .tu [x, .b b] else x) (if ok = true then .tuple #[u, .bool b] else u) := by
    intro b x u hx
    cases ok with
    | true =>
      simp only [cond_true, if_true, VRel]
      refine ⟨_, rfl, ?_⟩
      simp only [VRels]
      exact ⟨_, _, rfl, hx, _, _, rfl, vrel_mk_b, rfl⟩
    | false => simpa using hx
  unfold lookMap at e
  split at e
  · obtain ⟨hka, e⟩ := cond_ok e
    cases e
    have : v = .map none := by simpa [VRel] using hx
    subst this
    simp only [lookEnd] at e2
    obtain ⟨z, hz, e2⟩ := R.bind_ok e2
    cases e2
    obtain ⟨i, zv, hi, hzv, hzr⟩ := tZero_ok (ρ := ρ) (β := β) hz
    refine ⟨_, ?_, fin false z zv hzr⟩
    have hf : ∀ w : World, (Instr.findKey y.1 kv []).run P w = .ok none w := by
      intro w
      obtain ⟨d, hu⟩ := keyKd_under hk
      simp [Instr.findKey, run_underlying hu, Instr.findNow]
    simp only [Instr.lookup, Sem.run_bind, run_underlying hu, Result.andThen_ok, Sem.run_pure, checkKey_ok hk hka hkv, hf, zeroValue, typeInfo, run_program, hi, hzv]
  · rename_i rr
    obtain ⟨hka, e⟩ := cond_ok e
    obtain ⟨es, hes, e⟩ := R.bind_ok e
    have hes' := map_ok hes
    obtain ⟨m, o, z, hb, rfl⟩ := vrel_m hx
    obtain ⟨entries, clock, hw, hm⟩ := hr.maps _ _ _ _ _ hb hes'
    rcases find_sound hk hkv hm e w with ⟨rfl, hrun⟩ | ⟨pre, xx, post, a, yy, b, l₁, l₂, he, rfl, _, _, hsplit, hrun, _, _, _, _, _, hval, _⟩
    · simp only [lookEnd] at e2
      obtain ⟨z, hz, e2⟩ := R.bind_ok e2
      cases e2
      obtain ⟨i, zv, hi, hzv, hzr⟩ := tZero_ok (ρ := ρ) (β := β) hz
      refine ⟨_, ?_, fin false z zv hzr⟩
      simp only [Instr.lookup, Sem.run_bind, run_underlying hu, Result.andThen_ok, run_getMap hw, Sem.run_pure, checkKey_ok hk hka hkv, hrun, zeroValue, typeInfo, run_program, hi, hzv]
    · simp only [lookEnd] at e2
      cases e2
      refine ⟨_, ?_, fin true xx.2 yy.val hval⟩
      simp only [Instr.lookup, Sem.run_bind, run_underlying hu, Result.andThen_ok, run_getMap hw, Sem.run_pure, checkKey_ok hk hka hkv, hrun]
  · cases e
theorem beq_bytes {a b : ByteArray} (e : (a == b) = true) : a = b := by
  rw [beq_toListBytes] at e
  have e := eq_of_beq e
  apply ByteArray.ext
  apply Array.ext'
  rwa [ByteArray.toList_eq, ByteArray.toList_eq] at e
theorem sameNow_eq {d : TypeDesc} {v u : Value} (e : Instr.sameNow d v u = some true) (n : Nat) : Instr.sameBits n u v = true := by
  unfold Instr.sameNow at e
  split at e
  · split at e
    · rename_i hk
      subst hk
      simp only [Option.some.injEq, beq_iff_eq] at e
      subst e
      cases n <;> simp [Instr.sameBits]
    · cases e
  · simp only [Option.some.injEq] at e
    have e' := beq_bytes e
    subst e'
    cases n <;> simp only [Instr.sameBits, e]
  · simp only [Option.some.injEq, beq_iff_eq] at e
    subst e
    cases n <;> simp [Instr.sameBits]
  · cases e
/-- a map's block is another one -/
theorem goes_map (hr : HRel ρ β h w) (hd : Dom β h) {d m o z : Nat} {es es' : List (V × V)} (hb : β d = some (m, o, z)) (hc : h.bl.get d = some (.mp es)) {entries entries' : Array MapEntry} {clock clock' : Nat} (hw : w.heap[m]? = some (.map entries clock)) (hm : MRel ρ β es' entries' clock') :
    (setObj m (.map entries' clock')).run P w = .ok () { w with heap := w.heap.setIfInBounds m (.map entries' clock') } ∧
    Goes ρ β h w β (h.put d (some (.mp es'))) { w with heap := w.heap.setIfInBounds m (.map entries' clock') } := by
  have hlt : m < w.heap.size := hr.low _ _ _ _ hb
  have hself : (w.heap.setIfInBounds m (Obj.map entries' clock'))[m]? = some (.map entries' clock') := by simp [hlt]
  have hne : ∀ k, k ≠ m → (w.heap.setIfInBounds m (Obj.map entries' clock'))[k]? = w.heap[k]? := fun k hk => by
    rw [Array.getElem?_setIfInBounds_ne (Ne.symm hk)]
  have hold : ∀ d' x, d' ≠ d → (h.put d (some (.mp es'))).bl.get d' = some x → h.bl.get d' = some x := by
    intro d' x e hx
    simp only [H.put] at hx
    rwa [T.get_set_ne _ _ _ _ _ (Ne.symm e)] at hx
  have hapart : ∀ d' m' o' z' x, d' ≠ d → β d' = some (m', o', z') → h.bl.get d' = some x → m' ≠ m := by
    intro d' m' o' z' x e hb' hx
    rintro rfl
    exact e (hr.inj d' d m' o' z' o z hb' hb (by simp [hx]) (by simp [hc]))
  refine ⟨by simp only [setObj, Sem.run, hw], .refl β, ⟨?_, ?_, ?_, ?_⟩, ?_, Nat.le_refl _, ⟨by simp, ?_, rfl, rfl⟩, ?_⟩
  · intro d' m' o' z' c hb' hx
    by_cases e : d' = d
    · subst e
      simp only [H.put] at hx
      rw [T.get_set_same _ _ _ _ (Nat.lt_succ_self _)] at hx
      cases hx
    · have hx' := hold d' _ e hx
      have := hapart d' m' o' z' _ e hb' hx'
      simp only [hne m' this]
      exact hr.cells d' m' o' z' c hb' hx'
  · intro d' m' o' z' es₁ hb' hx
    by_cases e : d' = d
    · subst e
      rw [hb] at hb'
      cases hb'
      simp only [H.put] at hx
      rw [T.get_set_same _ _ _ _ (Nat.lt_succ_self _)] at hx
      cases hx
      exact ⟨entries', clock', hself, hm⟩
    · have hx' := hold d' _ e hx
      have := hapart d' m' o' z' _ e hb' hx'
      simp only [hne m' this]
      exact hr.maps d' m' o' z' es₁ hb' hx'
  · intro d₁ d₂ m' o₁ z₁ o₂ z₂ hb₁ hb₂ hs₁ hs₂
    refine hr.inj d₁ d₂ m' o₁ z₁ o₂ z₂ hb₁ hb₂ ?_ ?_
    · by_cases e : d₁ = d
      · subst e; simp [hc]
      · obtain ⟨x, hx⟩ := Option.isSome_iff_exists.1 hs₁
        rw [hold d₁ x e hx]; rfl
    · by_cases e : d₂ = d
      · subst e; simp [hc]
      · obtain ⟨x, hx⟩ := Option.isSome_iff_exists.1 hs₂
        rw [hold d₂ x e hx]; rfl
  · intro d' m' o' z' hb'
    simp only [Array.size_setIfInBounds]
    exact hr.low d' m' o' z' hb'
  · exact fun d' x hx => hd d' x hx
  · intro m' hm' hn
    refine hne m' ?_
    rintro rfl
    exact hn d o z hb
  · intro d' m' o' z' e1 e2
    rw [e1] at e2
    cases e2
theorem replKey_none {kt : Nat} {k v : V} : ∀ {es : List (V × V)}, (∀ e ∈ es, eqV P kt k e.1 = .ok false) → replKey P kt k v es = .ok es
  | [], _ => rfl
  | e :: es, h => by
    have ih := replKey_none (k := k) (v := v) (es := es) (fun x hx => h x (List.mem_cons_of_mem _ hx))
    have h0 := h e List.mem_cons_self
    simp only [replKey, h0, R.bind, ih, cond_false]
theorem replKey_one {kt : Nat} {k v : V} : ∀ {pre post : List (V × V)} {e : V × V}, (∀ x ∈ pre ++ post, eqV P kt k x.1 = .ok false) → eqV P kt k e.1 = .ok true → replKey P kt k v (pre ++ e :: post) = .ok (pre ++ (k, v) :: post)
  | [], post, e, h, h1 => by simp only [List.nil_append, replKey, h1, R.bind, replKey_none (fun x hx => h x (by simpa using hx)), cond_true]
  | p :: pre, post, e, h, h1 => by
    simp only [List.cons_append, replKey, h p (by simp), R.bind, replKey_one (pre := pre) (fun x hx => h x (by simp at hx ⊢; exact .inr hx)) h1, cond_false]
theorem mapPut_sound {t : Nat} {m k v r : V} {h' : H} (hr : HRel ρ β h w) (hd : Dom β h) (e : mapPut P t h m k v = .ok (r, h')) {mv kv vv : Value} (hm : VRel ρ β m mv) (hk : VRel ρ β k kv) (hv : VRel ρ β v vv) :
    r = undefV ∧ ∃ w', (Instr.mapUpdate t mv kv vv).run P w = .ok () w' ∧ Goes ρ β h w β h' w' := by
  unfold mapPut at e
  split at e
  · rename_i d
    obtain ⟨y, hy, e⟩ := R.bind_ok e
    obtain ⟨hkk, e⟩ := cond_ok e
    obtain ⟨es, hes, e⟩ := R.bind_ok e
    obtain ⟨es', hes', e⟩ := R.bind_ok e
    cases e
    refine ⟨rfl, ?_⟩
    simp only [Bool.and_eq_true] at hkk
    have hu := tMap_ok hy
    have hc := map_ok hes
    obtain ⟨mb, o, z, hb, rfl⟩ := vrel_m hm
    obtain ⟨entries, clock, hw, hmr⟩ := hr.maps _ _ _ _ _ hb hc
    unfold setKey at hes'
    obtain ⟨q, hq, hes'⟩ := R.bind_ok hes'
    rcases find_sound hkk.1 hk hmr hq w with ⟨rfl, hrun⟩ | ⟨pre, xx, post, a, yy, b, l₁, l₂, rfl, rfl, htrue, hfalse, hsplit, hrun, hperm, p1, p2, p3, p4, hval, hkey⟩
    · simp only at hes'
      cases hes'
      have hmr' : MRel ρ β (app es [(k, v)]) (entries.push { key := kv, val := vv, born := clock }) (clock + 1) := by
        obtain ⟨⟨l, hp, h1, h2⟩, hst⟩ := hmr
        refine ⟨⟨l ++ [{ key := kv, val := vv, born := clock }], ?_, ?_, ?_⟩, hst.push _ _⟩
        · rw [Array.toList_push]
          exact List.Perm.append_right _ hp
        · rw [app_eq, List.map_append, List.map_append]
          exact h1.append (VRels.one hk)
        · rw [app_eq, List.map_append, List.map_append]
          exact h2.append (VRels.one hv)
      obtain ⟨g1, g2⟩ := goes_map (P := P) (clock' := clock + 1) hr hd hb hc hw hmr'
      refine ⟨_, ?_, g2⟩
      simp only [Instr.mapUpdate, Sem.run_bind, run_underlying hu, Result.andThen_ok, run_getMap hw, checkKey_ok hkk.1 hkk.2 hk, hrun, g1]
    · simp only at hes'
      obtain ⟨hat, hes'⟩ := cond_ok hes'
      rw [replKey_one hfalse htrue] at hes'
      cases hes'
      have hlen : a.length < entries.size := by
        have : entries.toList.length = a.length + (yy :: b).length := by rw [hsplit]; simp
        simp at this
        omega
      have hget : entries[a.length]? = some yy := by
        rw [← Array.getElem?_toList, hsplit]
        simp
      have hmod : (entries.modify a.length fun e => { e with key := kv, val := vv }).toList = a ++ { yy with key := kv, val := vv } :: b := by
        apply List.ext_getElem?
        intro i
        rw [Array.getElem?_toList, Array.getElem?_modify, ← Array.getElem?_toList, hsplit]
        by_cases hi : a.length = i
        · subst hi
          simp
        · rw [if_neg hi]
          by_cases hlt : i < a.length
          · rw [List.getElem?_append_left hlt, List.getElem?_append_left hlt]
          · rw [List.getElem?_append_right (by omega), List.getElem?_append_right (by omega)]
            have : i - a.length = (i - a.length - 1) + 1 := by omega
            rw [this]
            rfl
      have hmr' : MRel ρ β (pre ++ (k, v) :: post) (entries.modify a.length fun e => { e with key := kv, val := vv }) clock := by
        refine ⟨⟨l₁ ++ { yy with key := kv, val := vv } :: l₂, ?_, ?_, ?_⟩, hmr.st.modify fun _ => rfl⟩
        · rw [hmod]
          rw [hsplit] at hperm
          have h1 : (yy :: (l₁ ++ l₂)).Perm (yy :: (a ++ b)) := (List.perm_middle.symm.trans hperm).trans List.perm_middle
          exact (List.perm_middle.trans ((List.Perm.cons_inv h1).cons _)).trans List.perm_middle.symm
        · simp only [List.map_append, List.map_cons]
          refine p1.append ?_
          simp only [VRels]
          exact ⟨_, _, rfl, hk, p3⟩
        · simp only [List.map_append, List.map_cons]
          refine p2.append ?_
          simp only [VRels]
          exact ⟨_, _, rfl, hv, p4⟩
      obtain ⟨g1, g2⟩ := goes_map (P := P) (clock' := clock) hr hd hb hc hw hmr'
      obtain ⟨dd, _, hsn⟩ := same_now hat htrue hk hkey
      have hstay : (Instr.keyThatStays yy.key kv).run P w = .ok kv w := by
        simp only [Instr.keyThatStays, sameNow_eq hsn, if_true, Sem.run_pure]
      refine ⟨_, ?_, g2⟩
      simp only [Instr.mapUpdate, Sem.run_bind, run_underlying hu, Result.andThen_ok, run_getMap hw, checkKey_ok hkk.1 hkk.2 hk, hrun, hget, Option.map_some, Option.getD_some, hstay, g1]
  · cases e
theorem lenMap_sound {c : Call} {t ty : Nat} {x r : V} (hr : HRel ρ β h w) (ht : ty0 c = .ok t) (e : lenMap P t h x = .ok r) {v : Value} (hx : VRel ρ β x v) : ∃ q, (Builtin.len_ c.argTypes ty #[v]).run P w = .ok q w ∧ VRel ρ β r q := by
  have h0 := ty0_ok ht
  unfold lenMap at e
  split at e
  · obtain ⟨y, hy, e⟩ := R.bind_ok e
    cases e
    have hu := tMap_ok hy
    have : v = .map none := by simpa [VRel] using hx
    subst this
    refine ⟨_, ?_, vrel_mk_i⟩
    simp only [Builtin.len_, h0, List.getElem?_toArray, List.getElem?_cons_zero, Sem.run_bind, run_underlying hu, Result.andThen_ok, goInt, Sem.run_pure]
  · obtain ⟨y, hy, e⟩ := R.bind_ok e
    obtain ⟨es, hes, e⟩ := R.bind_ok e
    cases e
    have hu := tMap_ok hy
    obtain ⟨mb, o, z, hb, rfl⟩ := vrel_m hx
    obtain ⟨entries, clock, hw, ⟨l, hp, h1, h2⟩, _⟩ := hr.maps _ _ _ _ _ hb (map_ok hes)
    have hlen : entries.size = es.length := by
      have a := hp.length_eq
      have b := h1.length
      simp at a b
      omega
    refine ⟨_, ?_, vrel_mk_i⟩
    simp only [Builtin.len_, h0, List.getElem?_toArray, List.getElem?_cons_zero, Sem.run_bind, run_underlying hu, Result.andThen_ok, run_getMap hw, goInt, Sem.run_pure, hlen, lenN_eq]
    rfl
  · obtain ⟨y, hy, e⟩ := R.bind_ok e
    cases e
    have hu := tArray_ok hy
    simp only [VRel] at hx
    obtain ⟨vs, rfl, _⟩ := hx
    refine ⟨_, ?_, vrel_mk_i⟩
    simp only [Builtin.len_, h0, List.getElem?_toArray, List.getElem?_cons_zero, Sem.run_bind, run_underlying hu, Result.andThen_ok, goInt, Sem.run_pure]
    rfl
  · obtain ⟨y, hy, e⟩ := R.bind_ok e
    cases e
    obtain ⟨m, o, z, hb, rfl⟩ := vrel_p hx
    unfold tPtrArraySize at hy
    split at hy
    · rename_i el hu
      obtain ⟨e2, hu2, _⟩ := tArraySize_ok hy
      refine ⟨_, ?_, vrel_mk_i⟩
      simp only [Builtin.len_, h0, List.getElem?_toArray, List.getElem?_cons_zero, Sem.run_bind, run_underlying hu, run_underlying hu2, Result.andThen_ok, goInt, Sem.run_pure]
      rfl
    · cases hy
  · cases e
theorem read_sound {ev : Operand → R V} {re : Operand → Value} (hev : ∀ o x, ev o = .ok x → VRel ρ β x (re o)) (hr : HRel ρ β h w) {o : Oper} {r : V} (e : readOp o.op P ev h = .ok r) :
    ∃ q, (execOp re o).run P w = .ok (.value q) w ∧ VRel ρ β r q := by
  obtain ⟨dst, op, ty, pos, after, guard⟩ := o
  simp only at e
  cases op <;> simp only [readOp] at e <;> try cases e
  case load t x =>
    obtain ⟨u, hu, e⟩ := R.bind_ok e
    obtain ⟨_, q, hq, hrr⟩ := loadV_sound hr e (hev _ _ hu)
    refine ⟨q, ?_, hrr⟩
    simp only [execOp, Sem.run_bind, hq, Result.andThen_ok, Sem.run_pure]
  case lookup t x k ok =>
    obtain ⟨u, hu, e⟩ := R.bind_ok e
    obtain ⟨kk, hkk, e⟩ := R.bind_ok e
    obtain ⟨y, hy, e⟩ := R.bind_ok e
    obtain ⟨hkd, e⟩ := cond_ok e
    obtain ⟨q, hq, e⟩ := R.bind_ok e
    obtain ⟨v, hv, hrr⟩ := lookup_sound hr hy hkd hq e (hev _ _ hu) (hev _ _ hkk)
    refine ⟨v, ?_, hrr⟩
    simp only [execOp, Sem.run_bind, hv, Result.andThen_ok, Sem.run_pure]
  case convert s d x =>
    obtain ⟨el, hel, e⟩ := R.bind_ok e
    obtain ⟨h1, e⟩ := cond_ok e
    obtain ⟨u, hu, e⟩ := R.bind_ok e
    simp only [Bool.and_eq_true] at h1
    obtain ⟨q, hq, hrr⟩ := toStr_sound hr hel h1.1 h1.2 e (hev _ _ hu)
    refine ⟨q, ?_, hrr⟩
    simp only [execOp, Sem.run_bind, hq, Result.andThen_ok, Sem.run_pure]
  case call c =>
    obtain ⟨callee, args, argTypes⟩ := c
    simp only at e
    split at e
    · rename_i b
      split at e
      · obtain ⟨vs, hvs, e⟩ := R.bind_ok e
        have hrel := mapR_rel hev hvs
        have hargs : (args.map re).toList = args.toList.map re := by simp
        split at e
        · rename_i x
          obtain ⟨t, ht, e⟩ := R.bind_ok e
          simp only [VRels] at hrel
          obtain ⟨v, r', e', hx, rfl⟩ := hrel
          obtain ⟨q, hq, hrr⟩ := lenMap_sound (ty := ty) hr ht e hx
          refine ⟨q, ?_, hrr⟩
          have ea : args.map re = #[v] := by apply Array.ext'; rw [hargs, e']
          simp only [execOp, resolve, ea, Sem.run_bind, Sem.run_pure, Result.andThen_ok, invoke, builtin, hq]
        · cases e
      · cases e
    · cases e
end Go.Dm
namespace Go.Dm
variable {ρ : Env} {β : B} {P : Program} {h : H} {w : World}

/-- what an operation that makes one block comes to -/
def OMakes (ρ : Env) (β : B) (P : Program) (nx : Nat) (w : World) (re : Operand → Value) (o : Oper) (x : V) (b : Blk) : Prop :=
  ∃ q w' ob z, (execOp re o).run P w = .ok (.value q) w' ∧ w'.heap = w.heap.push ob ∧ w'.os = w.os ∧ w'.output = w.output ∧ NewOk ρ β b ob z ∧ VRel ρ (β.add nx (w.heap.size, 0, z)) x q
theorem Makes.op {nx : Nat} {re : Operand → Value} {o : Oper} {x : V} {b : Blk} {s : Sem Value} (m : Makes ρ β P nx w s x b) (e : ∀ w : World, (execOp re o).run P w = (s.run P w).andThen fun v w => .ok (.value v) w) : OMakes ρ β P nx w re o x b := by
  obtain ⟨q, w', ob, z, h1, h2, h3, h4, h5, h6⟩ := m
  exact ⟨q, w', ob, z, by rw [e, h1]; rfl, h2, h3, h4, h5, h6⟩
theorem alloc_sound {ev : Operand → R V} {re : Operand → Value} (hev : ∀ o x, ev o = .ok x → VRel ρ β x (re o)) {o : Oper} {nx : Nat} {x : V} {b : Blk} (e : allocOp o.op P ev nx = .ok (x, b)) (w : World) : OMakes ρ β P nx w re o x b := by
  obtain ⟨dst, op, ty, pos, after, guard⟩ := o
  simp only at e
  cases op <;> simp only [allocOp] at e <;> try cases e
  case alloc t =>
    obtain ⟨z, hz, e⟩ := R.bind_ok e
    obtain ⟨hk, e⟩ := cond_ok e
    cases e
    exact (makes_alloc hz hk nx).op fun w => by simp only [execOp, Sem.run_bind]; rfl
  case box t y =>
    obtain ⟨u, hu, e⟩ := R.bind_ok e
    obtain ⟨hk, e⟩ := cond_ok e
    cases e
    exact (makes_box hk (hev _ _ hu) nx).op fun w => by simp only [execOp, Sem.run_bind]; rfl
  case buildSlice t n ps =>
    obtain ⟨el, hel, e⟩ := R.bind_ok e
    obtain ⟨z, hz, e⟩ := R.bind_ok e
    obtain ⟨s, hs, e⟩ := R.bind_ok e
    obtain ⟨hk, e⟩ := cond_ok e
    obtain ⟨qs, hqs, e⟩ := R.bind_ok e
    obtain ⟨c, hc, e⟩ := R.bind_ok e
    cases e
    simp only [Bool.and_eq_true, lenN_eq, Nat.add_zero, ble_eq, blt_eq, decide_eq_true_eq] at hk
    have hm : Nat.mul n s = n * s := rfl
    rw [hm] at hk
    have := makes_slice (w := w) hel hz hs hk.1.1.1 (Nat.eq_of_beq_eq_true hk.1.1.2) hk.1.2 hk.2 (parts_sound hev hqs) hc nx
    refine this.op fun w => ?_
    have ea : (ps.map fun (i, x) => (i, re x)) = (ps.toList.map fun p => (p.1, re p.2)).toArray := by
      apply Array.ext'
      simp
    simp only [execOp, Sem.run_bind]
    rw [ea]
    rfl
  case makeMap t r =>
    cases r with
    | none =>
      cases e
      exact (makes_map nx).op fun w => by simp only [execOp, Sem.run_bind, Option.map_none]; rfl
    | some r => cases e
  case makeSlice t l c =>
    obtain ⟨l', hl', e⟩ := R.bind_ok e
    obtain ⟨c', hc', e⟩ := R.bind_ok e
    obtain ⟨ln, hln, e⟩ := R.bind_ok e
    obtain ⟨cn, hcn, e⟩ := R.bind_ok e
    obtain ⟨el, hel, e⟩ := R.bind_ok e
    obtain ⟨z, hz, e⟩ := R.bind_ok e
    obtain ⟨s, hs, e⟩ := R.bind_ok e
    obtain ⟨by_, hby, e⟩ := R.bind_ok e
    obtain ⟨hk, e⟩ := cond_ok e
    cases e
    simp only [room, Bool.and_eq_true, lenN_eq, Nat.add_zero, ble_eq, blt_eq, decide_eq_true_eq] at hk
    obtain ⟨k, rfl⟩ := toNatR_ok hln
    obtain ⟨k', rfl⟩ := toNatR_ok hcn
    have e1 := vrel_i (hev _ _ hl')
    have e2 := vrel_i (hev _ _ hc')
    have := makes_make (ρ := ρ) (β := β) (w := w) (k := k) (k' := k') hel hz hs hby hk.1.1.2 (Nat.eq_of_beq_eq_true hk.1.2) hk.2 hk.1.1.1.1.1 hk.1.1.1.1.2.1 hk.1.1.1.2 nx
    refine this.op fun w => ?_
    simp only [execOp, Sem.run_bind, e1, e2]
    rfl
  case convert s d y =>
    obtain ⟨hs, e⟩ := cond_ok e
    obtain ⟨el, hel, e⟩ := R.bind_ok e
    obtain ⟨hu, e⟩ := cond_ok e
    obtain ⟨v, hv, e⟩ := R.bind_ok e
    exact (makes_bytes hs hel hu e (hev _ _ hv)).op fun w => by simp only [execOp, Sem.run_bind]; rfl
theorem firstR_length {h : H} {es n : Nat} {x : V} {c : List V} (e : firstR h es n x = .ok c) : c.length = n * es := by
  unfold firstR at e
  cases hz : Nat.beq n 0 with
  | true => rw [hz] at e; cases e; have := Nat.eq_of_beq_eq_true hz; subst this; simp
  | false =>
    rw [hz] at e
    simp only [cond_false] at e
    split at e
    · obtain ⟨cs, _, e⟩ := R.bind_ok e
      rw [dropN_eq] at e
      obtain ⟨rfl, hh⟩ := takeR_ok e
      simp at hh ⊢
      omega
    · obtain ⟨h1, e⟩ := cond_ok e
      obtain ⟨l, hl, e⟩ := R.bind_ok e
      cases e
      obtain ⟨rfl, hh⟩ := takeR_ok hl
      have := Nat.eq_of_beq_eq_true h1
      subst this
      simp
      omega
    · cases e
/-- append of so many zero values -/
theorem run_zeros_in {st xt t2 e es n by_ : Nat} {k k' : IntKind} {base : Option Addr} {sl sc : Nat} {w' : World} {i : TypeInfo} {z : Value} (hu : P.underlying st = some (.slice e)) (hu2 : P.underlying xt = some (.int k))
    (hes : tSize P e = .ok es) (hi : P.info? e = some i) (hby : i.bytes = by_) (hz : i.zero = some z) (hzs : z.cells.size = es) (hroom : (2 * n + 2048) * by_ ≤ 281474976710656) (hsm : n < 1099511627776) (hle : sl + n ≤ sc)
    (hst : (if let some a := base then storeCells (a.add (sl * es)) (Builtin.zeroCells z.cells n).toList else pure () : Sem Unit).run P w = .ok () w') :
    (Builtin.append_ #[st, xt] t2 #[.slice base sl sc, .int k' (n : Int)]).run P w = .ok (.slice base (sl + n) sc) w' := by
  have hes' : i.size = es := by
    obtain ⟨i', hi', hs⟩ := tSize_ok hes
    rw [hi] at hi'
    cases hi'
    exact hs
  have hw : IntKind.i64.wrap (n : Int) = n := by
    unfold IntKind.wrap
    have e1 : IntKind.i64.bits = 64 := rfl
    rw [e1]
    have e2 : (2 : Int) ^ 64 = 18446744073709551616 := by decide
    have e3 : (2 : Int) ^ (64 - 1) = 9223372036854775808 := by decide
    simp only [e2, e3]
    have e4 : (n : Int) % 18446744073709551616 = n := by omega
    rw [e4, if_neg]
    simp only [Bool.and_eq_true, decide_eq_true_eq]
    omega
  have hti : ∀ w : World, (typeInfo e).run P w = .ok i w := fun w => by simp [typeInfo, hi]
  have hzv : ∀ w : World, (zeroValue e).run P w = .ok z w := fun w => by simp [zeroValue, typeInfo, hi, hz]
  have h0 : ¬ ((n : Int) < 0) := by omega
  have h1 : ¬ ((n : Int) * (i.bytes : Int) > 2 ^ 48) := by
    have : n * by_ ≤ (2 * n + 2048) * by_ := Nat.mul_le_mul_right _ (by omega)
    rw [hby, ← Int.natCast_mul]
    have e : (2 : Int) ^ 48 = 281474976710656 := by decide
    rw [e]
    omega
  have hap : ∀ w : World, ((if n * es = 0 then pure #[] else do pure (Builtin.zeroCells (← zeroValue e).cells n)) : Sem (Array Value)).run P w = .ok (Builtin.zeroCells z.cells n) w := by
    intro w
    split
    · rename_i hh
      have : (Builtin.zeroCells z.cells n) = #[] := by
        apply Array.eq_empty_of_size_eq_zero
        rw [size_zeroCells, hzs]
        exact hh
      rw [this]; rfl
    · simp only [Sem.run_bind, hzv, Result.andThen_ok, Sem.run_pure]
  cases base with
  | none =>
    simp only [Sem.run_pure] at hst
    cases hst
    simp only [Builtin.append_, List.getElem?_toArray, List.getElem?_cons_zero, List.getElem?_cons_succ, Sem.run_bind, run_underlying hu, run_underlying hu2, Result.andThen_ok, run_size hes, if_true, asInt, asIntOf, Sem.run_pure, hw, h0, if_false, hti, h1, Int.toNat_natCast, hle, Bool.not_true, Bool.false_eq_true, hap]
  | some a =>
    simp only at hst
    simp only [Builtin.append_, List.getElem?_toArray, List.getElem?_cons_zero, List.getElem?_cons_succ, Sem.run_bind, run_underlying hu, run_underlying hu2, Result.andThen_ok, run_size hes, if_true, asInt, asIntOf, Sem.run_pure, hw, h0, if_false, hti, h1, Int.toNat_natCast, hle, Bool.not_true, Bool.false_eq_true, hap, hst]
theorem run_zeros_out {st xt t2 e es n by_ : Nat} {k k' : IntKind} {base : Option Addr} {sl sc : Nat} {os : List Value} {i : TypeInfo} {z : Value} (hu : P.underlying st = some (.slice e)) (hu2 : P.underlying xt = some (.int k))
    (hes : tSize P e = .ok es) (hi : P.info? e = some i) (hby : i.bytes = by_) (hz : i.zero = some z) (hzs : z.cells.size = es) (hroom0 : (2 * n + 2048) * by_ ≤ 281474976710656) (hsm0 : n < 1099511627776) (hle : ¬ sl + n ≤ sc)
    (hold : (Builtin.firstCells es sl (.slice base sl sc)).run P w.drew = .ok os.toArray w.drew) (hroom : (2 * (sl + n) + 2048) * by_ ≤ 281474976710656) (hsm : sl + n < 1099511627776) :
    (Builtin.append_ #[st, xt] t2 #[.slice base sl sc, .int k' (n : Int)]).run P w =
      .ok (.slice (some ⟨w.heap.size, 0, none⟩) (sl + n) (grownCap w (sl + n) sc e)) (w.drew.alloc (.cells (os.toArray ++ (Builtin.zeroCells z.cells n).toList.toArray ++ Builtin.zeroCells z.cells (grownCap w (sl + n) sc e - (sl + n))) e)) := by
  have hw : IntKind.i64.wrap (n : Int) = n := by
    unfold IntKind.wrap
    have e1 : IntKind.i64.bits = 64 := rfl
    rw [e1]
    have e2 : (2 : Int) ^ 64 = 18446744073709551616 := by decide
    have e3 : (2 : Int) ^ (64 - 1) = 9223372036854775808 := by decide
    simp only [e2, e3]
    have e4 : (n : Int) % 18446744073709551616 = n := by omega
    rw [e4, if_neg]
    simp only [Bool.and_eq_true, decide_eq_true_eq]
    omega
  have hti : ∀ w : World, (typeInfo e).run P w = .ok i w := fun w => by simp [typeInfo, hi]
  have hzv : ∀ w : World, (zeroValue e).run P w = .ok z w := fun w => by simp [zeroValue, typeInfo, hi, hz]
  have h0 : ¬ ((n : Int) < 0) := by omega
  have h1 : ¬ ((n : Int) * (i.bytes : Int) > 2 ^ 48) := by
    have : n * by_ ≤ (2 * n + 2048) * by_ := Nat.mul_le_mul_right _ (by omega)
    rw [hby, ← Int.natCast_mul]
    have e : (2 : Int) ^ 48 = 281474976710656 := by decide
    rw [e]
    omega
  have hap : ∀ w : World, ((if n * es = 0 then pure #[] else do pure (Builtin.zeroCells (← zeroValue e).cells n)) : Sem (Array Value)).run P w = .ok (Builtin.zeroCells z.cells n) w := by
    intro w
    split
    · rename_i hh
      have : (Builtin.zeroCells z.cells n) = #[] := by
        apply Array.eq_empty_of_size_eq_zero
        rw [size_zeroCells, hzs]
        exact hh
      rw [this]; rfl
    · simp only [Sem.run_bind, hzv, Result.andThen_ok, Sem.run_pure]
  have h2 : ¬ (((sl + n : Nat) : Int) > IntKind.i64.max ∧ (True ∨ i.bytes = 0)) := by
    have : (IntKind.i64.max : Int) = 9223372036854775807 := by decide
    rw [this]; omega
  have h3 : ¬ (Builtin.nextslicecap (sl + n) sc * i.bytes > 2 ^ 48) := by
    have := nextcap_le (n := sl + n) (c := sc) (by omega)
    have h3 : Builtin.nextslicecap (sl + n) sc * i.bytes ≤ (2 * (sl + n) + 2048) * i.bytes := Nat.mul_le_mul_right _ this
    rw [hby] at h3 ⊢
    have : (2 : Nat) ^ 48 = 281474976710656 := by decide
    omega
  have hch : (choose (.appendCap (sl + n) sc e)).run P w = .ok (grownCap w (sl + n) sc e) w.drew := by
    simp [Question.forced, grownCap]
  simp only [Builtin.append_, List.getElem?_toArray, List.getElem?_cons_zero, List.getElem?_cons_succ, Sem.run_bind, run_underlying hu, run_underlying hu2, Result.andThen_ok, run_size hes, if_true, asInt, asIntOf, Sem.run_pure, hw, h0, if_false, hti, h1, Int.toNat_natCast, hle, Bool.not_true, Bool.false_eq_true, hap, h2, h3, hch, run_askRoom, hold, hzv, newRow, run_newObj]
  rfl
theorem tElem_ok {t : Nat} {E : Es} (e : tElem P t = .ok E) : P.underlying t = some (.slice E.e) ∧ tSize P E.e = .ok E.es ∧ (∃ i zv, P.info? E.e = some i ∧ i.bytes = E.by_ ∧ i.zero = some zv ∧ zv.cells.size = E.es ∧ (∀ (ρ : Env) (β : B), VRel ρ β E.z zv)) ∧ okCells E.z = true ∧ (cellsOfV E.z).length = E.es ∧ 0 < E.es := by
  unfold tElem at e
  obtain ⟨el, hel, e⟩ := R.bind_ok e
  obtain ⟨s, hs, e⟩ := R.bind_ok e
  obtain ⟨by_, hby, e⟩ := R.bind_ok e
  obtain ⟨z, hz, e⟩ := R.bind_ok e
  obtain ⟨hk, e⟩ := cond_ok e
  cases e
  simp only [Bool.and_eq_true, lenN_eq, Nat.add_zero, blt_eq, decide_eq_true_eq] at hk
  have hl := Nat.eq_of_beq_eq_true hk.1.2
  have hz' : ∀ (ρ : Env) (β : B), ∃ i v, P.info? el = some i ∧ i.zero = some v ∧ VRel ρ β z v := fun ρ β => tZero_ok hz
  obtain ⟨i, v, hi, hv, hr⟩ := hz' ⟨fun _ => 0, fun _ => []⟩ (fun _ => none)
  refine ⟨tSlice_ok hel, hs, ⟨i, v, hi, ?_, hv, ?_, ?_⟩, hk.1.1, hl, hk.2⟩
  · unfold tBytes at hby
    rw [hi] at hby
    cases hby
    rfl
  · have := (cells_of hk.1.1 hr).2.length
    simp only [Array.length_toList] at this
    show v.cells.size = s
    omega
  · intro ρ β
    obtain ⟨i', v', hi', hv', hr'⟩ := hz' ρ β
    rw [hi] at hi'
    cases hi'
    rw [hv] at hv'
    cases hv'
    exact hr'
theorem append_sound {ts : Array Nat} {ty : Nat} {s x r : V} {h' : H} (hr : HRel ρ β h w) (hd : Dom β h) (e : appendV P ts.toList h s x = .ok (r, h')) {u v : Value} (hs : VRel ρ β s u) (hx : VRel ρ β x v) :
    ∃ q w', (Builtin.append_ ts ty #[u, v]).run P w = .ok q w' ∧ Acts ρ β h w r h' q w' := by
  unfold appendV at e
  obtain ⟨t, ht, e⟩ := R.bind_ok e
  obtain ⟨t', ht', e⟩ := R.bind_ok e
  obtain ⟨E, hE, e⟩ := R.bind_ok e
  have ht := ofOpt_ok ht
  have ht' := ofOpt_ok ht'
  rw [nth_eq, Array.getElem?_toList] at ht ht'
  obtain ⟨hu, hes, ⟨i, zv, hi, hby, hzv, hzs, hzr⟩, hok, hzl, hpos⟩ := tElem_ok hE
  have hts : Builtin.append_ ts ty #[u, v] = Builtin.append_ #[t, t'] ty #[u, v] := by
    unfold Builtin.append_
    simp only [ht, ht', List.getElem?_toArray, List.getElem?_cons_zero, List.getElem?_cons_succ]
  rw [hts]
  have gen : ∀ d n new, P.underlying t' = some d → (d = .string ∨ ∃ e', d = .slice e') → lenV x = .ok n → firstR h E.es n x = .ok new → appendR h E.es E.by_ s n new = .ok (r, h') →
      ∃ q w', (Builtin.append_ #[t, t'] ty #[u, v]).run P w = .ok q w' ∧ Acts ρ β h w r h' q w' := by
    intro d n new hu2 hdd hn hnew e
    obtain ⟨vs, h1, h2, h3⟩ := first_sound (P := P) hr hnew hn (Nat.le_refl _) hx
    have hf := h1
    exact appendR_sound hr hd hzs (fun base sl sc w' he hle hst => by subst he; exact run_append_in hu hu2 hdd hes (lenV_sound hn hx w) (hf w rfl) hle hst)
      (fun base sl sc os he hle hold hrm hsm => by subst he; exact run_append_out hu hu2 hdd hes hi hby hzv (lenV_sound hn hx w) (hf w.drew rfl) hle hold hrm hsm) h2 h3 (firstR_length hnew) e hs
  unfold appendK at e
  split at e
  · rename_i k hk
    obtain ⟨n, hn, e⟩ := R.bind_ok e
    obtain ⟨hroom, g⟩ := cond_ok e
    clear e
    obtain ⟨k', rfl⟩ := toNatR_ok hn
    have hv := vrel_i hx
    subst hv
    simp only [room, ble_eq, blt_eq, Bool.and_eq_true, decide_eq_true_eq] at hroom
    have hu2 := tKd_int hk
    obtain ⟨ha, hc⟩ := cells_of hok (hzr ρ β)
    have hzc : (Builtin.zeroCells zv.cells n).toList = (List.replicate n zv.cells.toList).flatten := zeros_toList _ (by omega) n
    exact appendR_sound (vs := (Builtin.zeroCells zv.cells n).toList) hr hd hzs (fun base sl sc w' he hle hst => by subst he; exact run_zeros_in hu hu2 hes hi hby hzv hzs hroom.1 hroom.2 hle hst)
      (fun base sl sc os he hle hold hrm hsm => by subst he; exact run_zeros_out hu hu2 hes hi hby hzv hzs hroom.1 hroom.2 hle hold hrm hsm) (by rw [hzc]; exact rep_rel hc n) (rep_atoms ha n) (by rw [repN_length, hzl]) g hs
  · cases e
  · rename_i hk1 hk2
    obtain ⟨n, hn, e⟩ := R.bind_ok e
    obtain ⟨new, hnew, e⟩ := R.bind_ok e
    cases hk : tKd P t' with
    | str => exact gen _ n new (tKd_str hk) (.inl rfl) hn hnew e
    | sl el => exact gen _ n new (tKd_sl hk) (.inr ⟨_, rfl⟩) hn hnew e
    | int k => exact absurd hk (hk1 k)
    | o => exact absurd hk hk2
theorem copy_sound {ts : Array Nat} {ty : Nat} {s x r : V} {h' : H} (hr : HRel ρ β h w) (hd : Dom β h) (e : copyV P ts.toList h s x = .ok (r, h')) {u v : Value} (hs : VRel ρ β s u) (hx : VRel ρ β x v) :
    ∃ q w', (Builtin.copy_ ts ty #[u, v]).run P w = .ok q w' ∧ Acts ρ β h w r h' q w' := by
  unfold copyV at e
  obtain ⟨t, ht, e1⟩ := R.bind_ok e
  clear e
  obtain ⟨el, hel, e2⟩ := R.bind_ok e1
  clear e1
  obtain ⟨es, hes, e⟩ := R.bind_ok e2
  clear e2
  have ht := ofOpt_ok ht
  rw [nth_eq, Array.getElem?_toList] at ht
  have hu := tSlice_ok hel
  clear hel
  split at e
  · obtain ⟨m, hm, e⟩ := R.bind_ok e
    cases e
    have : u = .slice none 0 0 := by simpa [VRel] using hs
    subst this
    have hf : ∃ a, (Builtin.firstCells es (Nat.min m 0) v).run P w = .ok a w := by
      obtain ⟨vs, h1, _, _⟩ := first_sound (P := P) (es := es) (n := 0) (c := []) hr rfl hm (Nat.zero_le _) hx
      exact ⟨_, by rw [show Nat.min m 0 = 0 from Nat.min_eq_right (Nat.zero_le _)]; exact h1 _ rfl⟩
    obtain ⟨a, ha⟩ := hf
    refine ⟨.int .i64 0, w, ?_, β, .refl hr hd, vrel_mk_i⟩
    simp only [Builtin.copy_, ht, List.getElem?_toArray, List.getElem?_cons_zero, List.getElem?_cons_succ, Sem.run_bind, run_underlying hu, Result.andThen_ok, lenV_sound hm hx, run_size hes, ha, Sem.run_pure, goInt]
    rw [show Nat.min m 0 = 0 from Nat.min_eq_right (Nat.zero_le _)]
    rfl
  · rename_i b off len cap
    obtain ⟨m, hm, e⟩ := R.bind_ok e
    obtain ⟨new, hnew, e⟩ := R.bind_ok e
    obtain ⟨vs, h1, h2, h3⟩ := first_sound (P := P) hr hnew hm (Nat.min_le_left _ _) hx
    have hvl := h2.length
    have hnl := firstR_length hnew
    simp only [VRel] at hs
    obtain ⟨mb, o, z, o', c, hb, rfl, ho, hl, _⟩ := hs
    cases hz : Nat.beq (min m len) 0 with
    | true =>
      rw [hz] at e
      cases e
      have hz := Nat.eq_of_beq_eq_true hz
      have : vs = [] := by
        rw [hz] at hnl
        exact List.length_eq_zero_iff.1 (by omega)
      subst this
      rw [hz] at h1
      refine ⟨.int .i64 0, w, ?_, β, .refl hr hd, vrel_mk_i⟩
      have hmin : Nat.min m len = min m len := rfl
      simp only [Builtin.copy_, ht, List.getElem?_toArray, List.getElem?_cons_zero, List.getElem?_cons_succ, Sem.run_bind, run_underlying hu, Result.andThen_ok, lenV_sound hm hx, run_size hes, hmin, h1 _ rfl, Sem.run_pure, goInt, hz]
      rfl
    | false =>
      rw [hz] at e
      simp only [cond_false] at e
      obtain ⟨cs, hcs, e⟩ := R.bind_ok e
      obtain ⟨cs', hcs', e⟩ := R.bind_ok e
      cases e
      have hz := Nat.ne_of_beq_eq_false hz
      have hc0 : c ≠ 0 := by omega
      have ho := ho.resolve_right hc0
      subst ho
      obtain ⟨g1, g2⟩ := goes_store hr hd hb (cells_ok hcs) hcs' h3 h2
      have hst := run_storeCells_cells (P := P) mb (o + off) vs 0 w (fun j hj => by simpa using (g1 j hj).1) (fun j hj => by simpa using (g1 j hj).2) (oneCell_mem h3 h2)
      refine ⟨_, _, ?_, β, g2, vrel_mk_i⟩
      have hmin : Nat.min m len = min m len := rfl
      simp only [Builtin.copy_, ht, List.getElem?_toArray, List.getElem?_cons_zero, List.getElem?_cons_succ, Sem.run_bind, run_underlying hu, Result.andThen_ok, lenV_sound hm hx, run_size hes, hmin, h1 _ rfl, Sem.run_pure, goInt]
      simp only [Nat.add_zero] at hst
      rw [hst]
      rfl
  · cases e
end Go.Dm
namespace Go.Dm
variable {ρ : Env} {β : B} {P : Program} {h : H} {w : World}

/-- what a call comes to, told of the machine's -/
def CallOk (ρ : Env) (P : Program) (call : CallD) : Prop := ∀ (f : Nat) (args : List V) (h : H) (x : V) (h' : H), call f args h = .ok (x, h') →
  (∃ fn, P.funcs[f]? = some fn ∧ (fn.name == "runtime.NumGoroutine") = false ∧ fn.body.isSome = true) ∧
  ∀ (β : B) (w : World) (args' : Array Value), HRel ρ β h w → Dom β h → VRels ρ β args args'.toList →
    Calls P f args' w fun e w' => ∃ q, e = .returned q ∧ Acts ρ β h w x h' q w'
/-- what an operation that acts comes to -/
def OActs (ρ : Env) (β : B) (P : Program) (h : H) (w : World) (re : Operand → Value) (o : Oper) (x : V) (h' : H) : Prop :=
  (∃ q w', ((execOp re o).run P w = .ok (.value q) w' ∨ ((execOp re o).run P w = .ok .skip w' ∧ q = undef)) ∧ Acts ρ β h w x h' q w') ∨
  (∃ f args, (execOp re o).run P w = .ok (.enter f args) w ∧ Calls P f args w fun e w' => ∃ q, e = .returned q ∧ Acts ρ β h w x h' q w')
theorem undef_rel : VRel ρ β undefV undef := by
  simp only [undefV, VRel]
  exact ⟨#[], rfl, by simp [VRels]⟩
theorem two_ok {f : V → V → R (V × H)} {l : List V} {r : V × H} (e : two f l = .ok r) : ∃ a b, l = [a, b] ∧ f a b = .ok r := by
  unfold two at e
  split at e
  · exact ⟨_, _, rfl, e⟩
  · cases e
theorem eff_sound {call : CallD} (hc : CallOk ρ P call) {ev : Operand → R V} {re : Operand → Value} (hev : ∀ o x, ev o = .ok x → VRel ρ β x (re o)) (hr : HRel ρ β h w) (hd : Dom β h) {o : Oper} {x : V} {h' : H} (e : effOp o.op P call ev h = .ok (x, h')) :
    OActs ρ β P h w re o x h' := by
  obtain ⟨dst, op, ty, pos, after, guard⟩ := o
  simp only at e
  cases op <;> simp only [effOp] at e <;> try cases e
  case store t a y =>
    obtain ⟨u, hu, e⟩ := R.bind_ok e
    obtain ⟨v, hv, e⟩ := R.bind_ok e
    obtain ⟨h₁, h1, e⟩ := R.bind_ok e
    cases e
    obtain ⟨w', g1, g2⟩ := store_sound (P := P) hr hd h1 (hev _ _ hu) (hev _ _ hv)
    exact .inl ⟨undef, w', .inr ⟨by simp only [execOp, Sem.run_bind, g1, Result.andThen_ok, Sem.run_pure], rfl⟩, β, g2, undef_rel⟩
  case mapUpdate t m k y =>
    obtain ⟨m', hm, e⟩ := R.bind_ok e
    obtain ⟨k', hk, e⟩ := R.bind_ok e
    obtain ⟨y', hy, e⟩ := R.bind_ok e
    obtain ⟨rfl, w', g1, g2⟩ := mapPut_sound hr hd e (hev _ _ hm) (hev _ _ hk) (hev _ _ hy)
    exact .inl ⟨undef, w', .inr ⟨by simp only [execOp, Sem.run_bind, g1, Result.andThen_ok, Sem.run_pure], rfl⟩, β, g2, undef_rel⟩
  case insert t m k y =>
    obtain ⟨m', hm, e⟩ := R.bind_ok e
    obtain ⟨k', hk, e⟩ := R.bind_ok e
    obtain ⟨y', hy, e⟩ := R.bind_ok e
    obtain ⟨rfl, w', g1, g2⟩ := mapPut_sound hr hd e (hev _ _ hm) (hev _ _ hk) (hev _ _ hy)
    exact .inl ⟨undef, w', .inr ⟨by simp only [execOp, Sem.run_bind, g1, Result.andThen_ok, Sem.run_pure], rfl⟩, β, g2, undef_rel⟩
  case call c =>
    obtain ⟨callee, args, argTypes⟩ := c
    obtain ⟨vs, hvs, e⟩ := R.bind_ok e
    have hrel := mapR_rel hev hvs
    have hargs : (args.map re).toList = args.toList.map re := by simp
    cases callee with
    | invoke a b => cases e
    | value f =>
      simp only at e
      obtain ⟨fv, hf, e⟩ := R.bind_ok e
      have hfv := hev _ _ hf
      unfold callV at e
      split at e
      · rename_i k first cap
        simp only [VRel] at hfv
        obtain ⟨fs', cs', hfe, h1, h2⟩ := hfv
        obtain ⟨⟨fn, hfn, hname, hbody⟩, hcalls⟩ := hc _ _ _ _ _ e
        refine .inr ⟨k, fs' ++ args.map re ++ cs', ?_, hcalls β w _ hr hd ?_⟩
        · have hb : ¬ (fn.body.isNone = true) := by
            cases hbb : fn.body with
            | none => rw [hbb] at hbody; cases hbody
            | some _ => simp
          have hname' : ¬ ((fn.name == "runtime.NumGoroutine") = true) := by rw [hname]; simp
          simp only [execOp, resolve, Deferred.ofValue, hfe, Sem.run_bind, Sem.run_pure, Result.andThen_ok, invoke, callFunc, run_program, hfn, hname, hb, Bool.false_eq_true, if_false]
        · simp only [app_eq, Array.toList_append, hargs]
          exact (h1.append hrel).append h2
      · cases e
    | builtin b =>
      simp only at e
      unfold builtinE at e
      cases b <;> simp only at e <;> try cases e
      case append =>
        obtain ⟨a, b, rfl, e⟩ := two_ok e
        simp only [VRels] at hrel
        obtain ⟨u, r1, e1, hu, v, r2, e2, hv, rfl⟩ := hrel
        obtain ⟨q, w', g1, g2⟩ := append_sound (ty := ty) hr hd e hu hv
        have ea : args.map re = #[u, v] := by apply Array.ext'; rw [hargs, e1, e2]
        exact .inl ⟨q, w', .inl (by simp only [execOp, resolve, ea, Sem.run_bind, Sem.run_pure, Result.andThen_ok, invoke, builtin, g1]), g2⟩
      case copy =>
        obtain ⟨a, b, rfl, e⟩ := two_ok e
        simp only [VRels] at hrel
        obtain ⟨u, r1, e1, hu, v, r2, e2, hv, rfl⟩ := hrel
        obtain ⟨q, w', g1, g2⟩ := copy_sound (ty := ty) hr hd e hu hv
        have ea : args.map re = #[u, v] := by apply Array.ext'; rw [hargs, e1, e2]
        exact .inl ⟨q, w', .inl (by simp only [execOp, resolve, ea, Sem.run_bind, Sem.run_pure, Result.andThen_ok, invoke, builtin, g1]), g2⟩
/-- what is wanted is wanted in the model too -/
theorem wanted_sound {ops : Array Oper} {t : T V} {a : Go.Act} (ha : ARel ρ β t a.tmps) {o : Oper} {b : Bool} (e : wantedR ops.toList t o = .ok b) : Region.wanted o (yielded ops a.tmps) = b := by
  unfold wantedR at e
  split at e
  · rename_i hg
    cases e
    simp only [Region.wanted, hg]
  · rename_i g hg
    obtain ⟨gi, gw⟩ := g
    split at e
    · rename_i p hp
      rw [nth_eq, Array.getElem?_toList] at hp
      split at e
      · rename_i d hd
        simp only [Region.wanted, hg, yielded, hp, Option.bind_some, hd]
        unfold isTrue at e
        cases ht : t.get d with
        | none => rw [ht] at e; cases e
        | some v =>
          rw [ht] at e
          obtain ⟨q, hq, hv⟩ := ha d v ht
          rw [hq]
          cases v <;> simp only at e <;> try cases e
          · rename_i x
            have := vrel_b hv
            subst this
            cases x <;> cases gw <;> rfl
          · simp only [VRel] at hv
            obtain ⟨vs, rfl, _⟩ := hv
            rfl
      · cases e
    · cases e
/-- a slot is set -/
theorem ARel.put {t : T V} {a : Go.Act} (ha : ARel ρ β t a.tmps) {d : Option Nat} {x : V} {q : Value} (hv : VRel ρ β x q) (hlt : ∀ k, d = some k → k < a.tmps.size) (h : H) : ARel ρ β ((Act.put ⟨t, h⟩ d x).t) (a.put d q).tmps := by
  cases d with
  | none => exact ha
  | some d =>
    intro i y hy
    simp only [Act.put, Go.Act.put] at hy ⊢
    by_cases hi : d = i
    · subst hi
      rw [T.get_set_same _ _ _ _ (Nat.lt_succ_self _)] at hy
      cases hy
      exact ⟨q, by simp [hlt d rfl], hv⟩
    · rw [T.get_set_ne _ _ _ _ _ hi] at hy
      obtain ⟨v, h1, h2⟩ := ha i y hy
      exact ⟨v, by rw [Array.getElem?_setIfInBounds_ne hi]; exact h1, h2⟩
theorem put_size (a : Go.Act) (d : Option Nat) (q : Value) : (a.put d q).tmps.size = a.tmps.size := by
  cases d <;> simp [Go.Act.put]
theorem put_defers (a : Go.Act) (d : Option Nat) (q : Value) : (a.put d q).defers = a.defers := by
  cases d <;> rfl
theorem seqInt_eq {α : Type} (n : Int) (b : α) : seqInt n b = b := by
  unfold seqInt
  split <;> (cases Nat.beq _ _ <;> rfl)
theorem seqV_eq {α : Type} (v : V) (b : α) : seqV v b = b := by
  unfold seqV
  split <;> first | exact seqInt_eq _ _ | rfl | (cases Nat.beq _ _ <;> rfl)
theorem seqT_eq {α β : Type} (t : T α) (b : β) : seqT t b = b := by
  cases t <;> rfl
/-- one operation, done -/
def OStep (ρ : Env) (β : B) (P : Program) (h : H) (w : World) (o : Oper) (a : Go.Act) (x : V) (h' : H) : Prop := OActs ρ β P h w a.eval o x h'
theorem exec_sound {call : CallD} (hc : CallOk ρ P call) {t : T V} {a : Go.Act} (ha : ARel ρ β t a.tmps) (hr : HRel ρ β h w) (hd : Dom β h) {o : Oper} {x : V} {a' : Act} (e : execC (cls o.op P) P call ⟨t, h⟩ o.op = .ok (x, a')) :
    a'.t = t ∧ OActs ρ β P h w a.eval o x a'.h := by
  have hev : ∀ o x, evalO t o = .ok x → VRel ρ β x (a.eval o) := fun o x e => evalO_sound ha e
  generalize cls o.op P = c at e
  match c, e with
  | 0, e =>
    simp only [execC] at e
    obtain ⟨v, hv, e⟩ := R.bind_ok e
    cases e
    obtain ⟨q, h1, h2⟩ := pure_sound hev hv w
    exact ⟨rfl, .inl ⟨q, w, .inl h1, β, .refl hr hd, h2⟩⟩
  | 1, e =>
    simp only [execC] at e
    obtain ⟨v, hv, e⟩ := R.bind_ok e
    cases e
    obtain ⟨q, h1, h2⟩ := read_sound hev hr hv
    exact ⟨rfl, .inl ⟨q, w, .inl h1, β, .refl hr hd, h2⟩⟩
  | 2, e =>
    simp only [execC] at e
    obtain ⟨y, hy, e⟩ := R.bind_ok e
    rw [seqT_eq] at e
    cases e
    obtain ⟨x, b⟩ := y
    obtain ⟨q, w', ob, z, h1, h2, h3, h4, h5, h6⟩ := alloc_sound hev hy w
    exact ⟨rfl, .inl ⟨q, w', .inl h1, _, goes_new hr hd h5 h2 h3 h4, h6⟩⟩
  | n + 3, e =>
    simp only [execC] at e
    unfold withH at e
    obtain ⟨y, hy, e⟩ := R.bind_ok e
    rw [seqT_eq] at e
    cases e
    obtain ⟨x, h'⟩ := y
    exact ⟨rfl, eff_sound hc hev hr hd hy⟩
end Go.Dm
namespace Go.Dm
variable {ρ : Env} {β : B} {P : Program} {h : H} {w : World}

theorem wp_of_acts {o : Oper} {a : Go.Act} {x : V} {h' : H} {next : Go.Act → World → Prop} {Q : Exit → Go.Act → World → Prop} (k : OActs ρ β P h w a.eval o x h') (hn : ∀ q w', Acts ρ β h w x h' q w' → next (a.put o.dst q) w') : o.wp P a w next Q := by
  unfold Oper.wp
  rcases k with ⟨q, w', h1, h2⟩ | ⟨f, args, h1, h2⟩
  · rcases h1 with h1 | ⟨h1, rfl⟩
    · rw [h1]; exact hn q w' h2
    · rw [h1]; exact hn _ w' h2
  · rw [h1]
    refine Calls.mono h2 fun e w'' he => ?_
    obtain ⟨q, rfl, hq⟩ := he
    exact hn q w'' hq
theorem bif_true {x y : Bool} (e : (bif x then y else false) = true) : x = true ∧ y = true := by
  cases x with
  | true => exact ⟨rfl, e⟩
  | false => cases e
theorem dstsOk_mem {n : Nat} : ∀ {l : List Oper}, dstsOk n l = true → ∀ o ∈ l, ∀ d, o.dst = some d → d < n
  | [], _, _, ho, _, _ => by cases ho
  | o :: l, e, o', ho, d, hd => by
    simp only [dstsOk] at e
    obtain ⟨h1, h2⟩ := bif_true e
    rcases List.mem_cons.1 ho with rfl | ho
    · rw [hd] at h1
      simp only [Bool.and_eq_true, blt_eq, decide_eq_true_eq] at h1
      exact h1.1
    · exact dstsOk_mem h2 o' ho d hd
/-- what stands at the start and at the end of a piece of code -/
structure AOk (ρ : Env) (β : B) (A : Act) (a : Go.Act) (w : World) : Prop where
  regs : ARel ρ β A.t a.tmps
  rel : HRel ρ β A.h w
  dom : Dom β A.h
structure AGoes (ρ : Env) (β : B) (A : Act) (a : Go.Act) (w : World) (A' : Act) (a' : Go.Act) (w' : World) : Prop where
  ex : ∃ β', Goes ρ β A.h w β' A'.h w' ∧ ARel ρ β' A'.t a'.tmps
  size : a'.tmps.size = a.tmps.size
  defers : a'.defers = a.defers
theorem AGoes.refl {A : Act} {a : Go.Act} (k : AOk ρ β A a w) : AGoes ρ β A a w A a w := ⟨⟨β, .refl k.rel k.dom, k.regs⟩, rfl, rfl⟩
theorem AGoes.trans {A A₁ A₂ : Act} {a a₁ a₂ : Go.Act} {w₁ w₂ : World} (k : Dom β A.h) (x : AGoes ρ β A a w A₁ a₁ w₁) (y : ∀ β₁, AOk ρ β₁ A₁ a₁ w₁ → AGoes ρ β₁ A₁ a₁ w₁ A₂ a₂ w₂) : AGoes ρ β A a w A₂ a₂ w₂ := by
  obtain ⟨⟨β₁, g1, g2⟩, h2, h3⟩ := x
  obtain ⟨⟨β₂, k1, k2⟩, k3, k4⟩ := y β₁ ⟨g2, g1.rel, g1.dom⟩
  exact ⟨⟨β₂, g1.trans k1 k, k2⟩, k3.trans h2, k4.trans h3⟩
theorem AGoes.trans1 {A A₁ A₂ : Act} {a a₁ a₂ : Go.Act} {β₁ : B} {w₁ w₂ : World} (k : Dom β A.h) (g : Goes ρ β A.h w β₁ A₁.h w₁) (hs : a₁.tmps.size = a.tmps.size) (hd : a₁.defers = a.defers) (y : AGoes ρ β₁ A₁ a₁ w₁ A₂ a₂ w₂) : AGoes ρ β A a w A₂ a₂ w₂ := by
  obtain ⟨⟨β₂, k1, k2⟩, k3, k4⟩ := y
  exact ⟨⟨β₂, g.trans k1 k, k2⟩, k3.trans hs, k4.trans hd⟩
theorem put_h (A : Act) (d : Option Nat) (x : V) : (A.put d x).h = A.h := by
  cases d <;> rfl
theorem exec1_ok {call : CallD} {A A' : Act} {o : Oper} (e : exec1 P call A o = .ok A') : ∃ x A₁, execC (cls o.op P) P call A o.op = .ok (x, A₁) ∧ A' = A₁.put o.dst x := by
  unfold exec1 at e
  obtain ⟨⟨x, A₁⟩, hx, e⟩ := R.bind_ok e
  simp only [seqV_eq, seqT_eq] at e
  cases e
  exact ⟨x, A₁, hx, rfl⟩
theorem ops_sound {call : CallD} (hc : CallOk ρ P call) {ops : Array Oper} {Q : Exit → Go.Act → World → Prop} {n : Nat} (hdst : dstsOk n ops.toList = true) : ∀ (l : List Oper) (k : Nat) (_ : ∀ j, l[j]? = ops[k + j]?) {β : B} {w : World} {A A' : Act} {a : Go.Act} (_ : AOk ρ β A a w) (_ : a.tmps.size = n) (_ : opsR P call ops.toList l A = .ok A')
    (_ : ∀ a' w', AGoes ρ β A a w A' a' w' → Q .normal a' w'), wpOps P ops Q (List.range' k l.length) a w
  | [], k, _, β, w, A, A', a, hA, _, e, hQ => by
    cases e
    exact hQ _ _ (.refl hA)
  | o :: l, k, hl, β, w, A, A', a, hA, hn, e, hQ => by
    have ho : ops[k]? = some o := by have := hl 0; simpa using this.symm
    have hl' : ∀ j, l[j]? = ops[k + 1 + j]? := fun j => by have := hl (j + 1); simp at this; rw [this]; congr 1; omega
    have hlt : ∀ d, o.dst = some d → d < a.tmps.size := fun d hd => by
      rw [hn]
      exact dstsOk_mem hdst o (List.mem_of_getElem? (by rw [Array.getElem?_toList]; exact ho)) d hd
    simp only [opsR] at e
    obtain ⟨A₁, h1, e⟩ := R.bind_ok e
    unfold step1 at h1
    obtain ⟨b, hb, h1⟩ := R.bind_ok h1
    have hw := wanted_sound hA.regs hb
    simp only [List.length_cons, List.range'_succ, wpOps, ho, hw]
    cases b with
    | false =>
      simp only [cond_false] at h1
      cases h1
      simp only [Bool.false_eq_true, if_false]
      refine ops_sound hc hdst l (k + 1) hl' (β := β) (A := A.put o.dst undefV) ⟨?_, ?_, ?_⟩ (by rw [put_size]; exact hn) e fun a' w' g => hQ _ _ ?_
      · exact hA.regs.put undef_rel hlt A.h
      · rw [put_h]; exact hA.rel
      · rw [put_h]; exact hA.dom
      · exact .trans1 (A₁ := A.put o.dst undefV) (β₁ := β) hA.dom (by rw [put_h]; exact .refl hA.rel hA.dom) (put_size _ _ _) (put_defers _ _ _) g
    | true =>
      simp only [cond_true] at h1
      simp only [if_true]
      obtain ⟨x, A₂, h2, rfl⟩ := exec1_ok h1
      obtain ⟨ht, hx⟩ := exec_sound (t := A.t) (h := A.h) hc hA.regs hA.rel hA.dom h2
      refine .inl (wp_of_acts hx fun q w' hq => ?_)
      obtain ⟨β', g1, g2⟩ := hq
      have hA₂ : A₂ = ⟨A.t, A₂.h⟩ := by rw [← ht]
      refine ops_sound hc hdst l (k + 1) hl' (β := β') (A := A₂.put o.dst x) ⟨?_, ?_, ?_⟩ (by rw [put_size]; exact hn) e fun a' w' g => hQ _ _ ?_
      · rw [hA₂]
        exact (hA.regs.mono g1.le).put g2 hlt A₂.h
      · rw [put_h]; exact g1.rel
      · rw [put_h]; exact g1.dom
      · exact .trans1 (A₁ := A₂.put o.dst x) hA.dom (by rw [put_h]; exact g1) (put_size _ _ _) (put_defers _ _ _) g
theorem region_sound {call : CallD} (hc : CallOk ρ P call) {ops : Array Oper} {Q : Exit → Go.Act → World → Prop} {id : Nat} {A A' : Act} {a : Go.Act} (hdst : dstsOk a.tmps.size ops.toList = true) (hA : AOk ρ β A a w) (e : regionR false P call ops.toList A = .ok A')
    (hQ : ∀ a' w', AGoes ρ β A a w A' a' w' → Q .normal a' w') : (Code.region id ops false).wp P Q a w := by
  refine wp_region ?_
  have := ops_sound (Q := Q) hc hdst ops.toList 0 (fun j => by simp) hA rfl e hQ
  rw [← List.range_eq_range'] at this
  simpa using this
end Go.Dm
namespace Go.Dm
variable {ρ : Env} {β : B} {P : Program} {h : H} {w : World}

-- WHAT THE OPERATIONS LOOK AT
theorem mapR_congr {α γ : Type} {f g : α → R γ} : ∀ {l : List α}, (∀ x ∈ l, f x = g x) → mapR f l = mapR g l
  | [], _ => rfl
  | a :: l, h => by
    have h1 := h a List.mem_cons_self
    have h2 := mapR_congr (l := l) fun x hx => h x (List.mem_cons_of_mem _ hx)
    simp only [mapR, h1, h2]
theorem partsR_congr {f g : Operand → R V} : ∀ {l : List (Nat × Operand)}, (∀ x ∈ l, f x.2 = g x.2) → partsR f l = partsR g l
  | [], _ => rfl
  | (i, a) :: l, h => by
    have h1 := h (i, a) List.mem_cons_self
    have h2 := partsR_congr (l := l) fun x hx => h x (List.mem_cons_of_mem _ hx)
    simp only at h1
    simp only [partsR, h1, h2]
theorem optR_congr {f g : Operand → R V} {l : Option Operand} (h : ∀ x, l = some x → f x = g x) : optR f l = optR g l := by
  cases l with
  | none => rfl
  | some a => simp only [optR, h a rfl]
theorem pure_congr {f g : Operand → R V} {o : Op} (hx : ∀ x ∈ o.operands.toList, f x = g x) : pureOp o P f = pureOp o P g := by
  cases o <;> simp only [pureOp]
  all_goals try simp only [Op.operands] at hx
  case build t ps => rw [partsR_congr fun x hm => hx x.2 (List.mem_map.2 ⟨x, hm, rfl⟩)]
  case makeFunc fn fs cs =>
    cases fn <;> simp only
    rw [mapR_congr (l := fs.toList) fun x hm => hx x (by simp at hm ⊢; exact .inl hm), mapR_congr (l := cs.toList) fun x hm => hx x (by simp at hm ⊢; exact .inr hm)]
  case slice t x lo hi mx =>
    rw [hx x (by simp), optR_congr (l := lo) fun y hy => hx y (by subst hy; simp), optR_congr (l := hi) fun y hy => hx y (by subst hy; simp), optR_congr (l := mx) fun y hy => hx y (by subst hy; simp)]
  case call c =>
    obtain ⟨callee, args, ts⟩ := c
    cases callee <;> simp only
    rw [mapR_congr (l := args.toList) fun x hm => hx x (by simp [Call.operands] at hm ⊢; exact hm)]
  all_goals simp_all
theorem read_congr {f g : Operand → R V} {o : Op} (hx : ∀ x ∈ o.operands.toList, f x = g x) (hh : H) : readOp o P f hh = readOp o P g hh := by
  cases o <;> simp only [readOp]
  all_goals try simp only [Op.operands] at hx
  case call c =>
    obtain ⟨callee, args, ts⟩ := c
    cases callee <;> simp only
    rename_i b
    cases b <;> simp only
    rw [mapR_congr (l := args.toList) fun x hm => hx x (by simp [Call.operands] at hm ⊢; exact hm)]
  all_goals simp_all
theorem alloc_congr {f g : Operand → R V} {o : Op} (hx : ∀ x ∈ o.operands.toList, f x = g x) (nx : Nat) : allocOp o P f nx = allocOp o P g nx := by
  cases o <;> simp only [allocOp]
  all_goals try simp only [Op.operands] at hx
  case buildSlice t n ps => rw [partsR_congr fun x hm => hx x.2 (List.mem_map.2 ⟨x, hm, rfl⟩)]
  all_goals simp_all
theorem eff_congr {f g : Operand → R V} {o : Op} (hx : ∀ x ∈ o.operands.toList, f x = g x) (call : CallD) (hh : H) : effOp o P call f hh = effOp o P call g hh := by
  cases o <;> simp only [effOp]
  all_goals try simp only [Op.operands] at hx
  case call c =>
    obtain ⟨callee, args, ts⟩ := c
    have hm : mapR f args.toList = mapR g args.toList := mapR_congr fun x hm => hx x (by simp [Call.operands] at hm ⊢; cases callee <;> simp [hm])
    cases callee <;> simp only [hm]
    rename_i v
    rw [hx v (by simp [Call.operands])]
  all_goals simp_all
open Classical in
/-- only what an operation looks at -/
noncomputable def only (o : Op) (ev : Operand → R V) : Operand → R V := fun x => if x ∈ o.operands.toList then ev x else .err 0
theorem only_eq (o : Op) (ev : Operand → R V) : ∀ x ∈ o.operands.toList, ev x = only o ev x := fun x hx => by simp only [only, hx, if_true]
theorem only_ok {o : Op} {ev : Operand → R V} {x : Operand} {v : V} (e : only o ev x = .ok v) : x ∈ o.operands.toList ∧ ev x = .ok v := by
  unfold only at e
  split at e
  · exact ⟨‹_›, e⟩
  · cases e
theorem evalO_at {t : T V} {a : Go.Act} {o : Operand} {x : V} (h : ∀ k y, o = .tmp k → t.get k = some y → ∃ v, a.tmps[k]? = some v ∧ VRel ρ β y v) (e : evalO t o = .ok x) : VRel ρ β x (a.eval o) := by
  unfold evalO at e
  split at e
  · obtain ⟨v, h1, h2⟩ := h _ _ rfl (ofOpt_ok e)
    simp only [Go.Act.eval, Array.getD_eq_getD_getElem?, h1, Option.getD_some]
    exact h2
  · exact ofValue_sound e
  · cases e
    simp only [VRel, VRels, Go.Act.eval]
    exact ⟨#[], #[], rfl, rfl, rfl⟩
  · cases e
theorem opTmps_mem {o : Oper} {k : Nat} (h : Operand.tmp k ∈ o.op.operands.toList) : k ∈ opTmps o := by
  unfold opTmps
  exact List.mem_filterMap.2 ⟨.tmp k, h, rfl⟩
theorem has_iff {l : List Nat} {n : Nat} : has l n = true ↔ n ∈ l := by
  induction l with
  | nil => simp [has]
  | cons a l ih =>
    simp only [has, List.mem_cons]
    cases hb : Nat.beq a n with
    | true => have := Nat.eq_of_beq_eq_true hb; simp [this]
    | false =>
      have := Nat.ne_of_beq_eq_false hb
      simp only [cond_false, ih]
      constructor
      · exact .inr
      · rintro (h | h)
        · exact absurd h.symm this
        · exact h
theorem wanted_at {ops : Array Oper} {t : T V} {a : Go.Act} {o : Oper} (ha : ∀ d ∈ guardTmp ops.toList o, ∀ x, t.get d = some x → ∃ v, a.tmps[d]? = some v ∧ VRel ρ β x v) {b : Bool} (e : wantedR ops.toList t o = .ok b) : Region.wanted o (yielded ops a.tmps) = b := by
  unfold wantedR at e
  split at e
  · rename_i hg
    cases e
    simp only [Region.wanted, hg]
  · rename_i g hg
    obtain ⟨gi, gw⟩ := g
    split at e
    · rename_i p hp
      have hp0 := hp
      rw [nth_eq, Array.getElem?_toList] at hp
      split at e
      · rename_i d hd
        simp only [Region.wanted, hg, yielded, hp, Option.bind_some, hd]
        unfold isTrue at e
        cases ht : t.get d with
        | none => rw [ht] at e; cases e
        | some v =>
          rw [ht] at e
          obtain ⟨q, hq, hv⟩ := ha d (by simp only [guardTmp, hg, hp0, hd, List.mem_singleton]) v ht
          rw [hq]
          cases v <;> simp only at e <;> try cases e
          · rename_i x
            have := vrel_b hv
            subst this
            cases x <;> cases gw <;> rfl
          · simp only [VRel] at hv
            obtain ⟨vs, rfl, _⟩ := hv
            rfl
      · cases e
    · cases e

-- WHAT IS CHECKED AHEAD
theorem ancOk_spec {all : List Nat} : ∀ {l : List Oper} {ms : List Nat}, ancOk all l ms = true → ∀ (i : Nat) (o : Oper), l[i]? = some o → ms[i]? = some (maskOf all o)
  | [], _, _, i, o, h => by simp at h
  | p :: l, [], e, _, _, _ => by simp [ancOk] at e
  | p :: l, m :: ms, e, i, o, h => by
    simp only [ancOk] at e
    obtain ⟨h1, h2⟩ := bif_true e
    cases i with
    | zero => simp at h ⊢; subst h; exact Nat.eq_of_beq_eq_true h1
    | succ i => simp at h ⊢; exact ancOk_spec h2 i o h
theorem foldl_mask {all : List Nat} {k : Nat} : ∀ (l : List Edge) (s : Nat), Nat.testBit (l.foldl (fun s e => bif Region.binds .any e then Nat.lor s (Nat.lor (Nat.pow 2 e.on) ((nth all e.on).getD 0)) else s) s) k = true →
    Nat.testBit s k = true ∨ ∃ e ∈ l, Region.binds .any e = true ∧ (k = e.on ∨ ∃ m, all[e.on]? = some m ∧ Nat.testBit m k = true)
  | [], s, h => .inl h
  | e :: l, s, h => by
    rw [List.foldl_cons] at h
    rcases foldl_mask l _ h with h1 | ⟨e', he', h1⟩
    · cases hb : Region.binds .any e with
      | false => rw [hb] at h1; exact .inl h1
      | true =>
        rw [hb] at h1
        simp only [cond_true] at h1
        have h1 : Nat.testBit (s ||| (2 ^ e.on ||| (nth all e.on).getD 0)) k = true := h1
        simp only [Nat.testBit_or, Bool.or_eq_true, Nat.testBit_two_pow, decide_eq_true_eq] at h1
        rcases h1 with h1 | h1 | h1
        · exact .inl h1
        · exact .inr ⟨e, List.mem_cons_self, hb, .inl h1.symm⟩
        · rw [nth_eq] at h1
          cases hm : all[e.on]? with
          | none => rw [hm] at h1; simp at h1
          | some m => rw [hm] at h1; exact .inr ⟨e, List.mem_cons_self, hb, .inr ⟨m, hm, h1⟩⟩
    · exact .inr ⟨e', List.mem_cons_of_mem _ he', h1⟩
theorem dstIs_ok {o : Oper} {f : Nat → Bool} (e : dstIs o f = true) {d : Nat} (h : o.dst = some d) : f d = true := by
  simpa only [dstIs, h] using e
theorem readOk_spec {rs : List Nat} {m i : Nat} : ∀ {l : List Oper} {ms : List Nat} {k0 : Nat}, readOk rs m i l ms k0 = true → ∀ (j : Nat) (p : Oper) (d : Nat), l[j]? = some p → p.dst = some d → d ∈ rs →
    Nat.testBit m (k0 + j) = true ∨ ∃ mk, ms[j]? = some mk ∧ Nat.testBit mk i = true
  | [], _, _, _, j, p, d, h, _, _ => by simp at h
  | q :: l, [], _, e, _, _, _, _, _, _ => by simp [readOk] at e
  | q :: l, mk :: ms, k0, e, j, p, d, h, hd, hr => by
    simp only [readOk] at e
    obtain ⟨h1, h2⟩ := bif_true e
    cases j with
    | zero =>
      simp at h
      subst h
      have := dstIs_ok h1 hd
      rw [has_iff.2 hr] at this
      simp only [cond_true] at this
      cases hm : Nat.testBit m k0 with
      | true => exact .inl rfl
      | false => rw [hm] at this; exact .inr ⟨mk, rfl, this⟩
    | succ j =>
      simp at h
      have := readOk_spec h2 j p d h hd hr
      rw [show k0 + (j + 1) = Nat.succ k0 + j by omega]
      simpa using this
theorem readsOk_spec {all : List Oper} {ams : List Nat} : ∀ {l : List Oper} {ms : List Nat} {i0 : Nat}, readsOk all ams l ms i0 = true → ∀ (j : Nat) (o : Oper), l[j]? = some o → ∃ m, ms[j]? = some m ∧ readOk (app (opTmps o) (guardTmp all o)) m (i0 + j) all ams 0 = true
  | [], _, _, _, j, o, h => by simp at h
  | q :: l, [], _, e, _, _, _ => by simp [readsOk] at e
  | q :: l, m :: ms, i0, e, j, o, h => by
    simp only [readsOk] at e
    obtain ⟨h1, h2⟩ := bif_true e
    cases j with
    | zero => simp at h; subst h; exact ⟨m, rfl, h1⟩
    | succ j =>
      simp at h
      obtain ⟨m', h3, h4⟩ := readsOk_spec h2 j o h
      exact ⟨m', by simpa using h3, by rw [show i0 + (j + 1) = Nat.succ i0 + j by omega]; exact h4⟩
theorem notDst_spec {d : Nat} : ∀ {l : List Oper}, notDst d l = true → ∀ o ∈ l, o.dst ≠ some d
  | [], _, _, h => by cases h
  | q :: l, e, o, h => by
    simp only [notDst] at e
    obtain ⟨h1, h2⟩ := bif_true e
    rcases List.mem_cons.1 h with rfl | h
    · intro hd
      have := dstIs_ok h1 hd
      simp only [Bool.not_eq_true'] at this
      exact Nat.ne_of_beq_eq_false this rfl
    · exact notDst_spec h2 o h
theorem dstsApart_spec : ∀ {l : List Oper}, dstsApart l = true → ∀ (i j : Nat) (o p : Oper) (d : Nat), l[i]? = some o → l[j]? = some p → o.dst = some d → p.dst = some d → i = j
  | [], _, i, _, _, _, _, h, _, _, _ => by simp at h
  | q :: l, e, i, j, o, p, d, hi, hj, ho, hp => by
    simp only [dstsApart] at e
    obtain ⟨h1, h2⟩ := bif_true e
    cases i with
    | zero =>
      cases j with
      | zero => rfl
      | succ j =>
        simp at hi hj
        subst hi
        exact absurd hp (notDst_spec (dstIs_ok h1 ho) p (List.mem_of_getElem? hj))
    | succ i =>
      cases j with
      | zero =>
        simp at hi hj
        subst hj
        exact absurd ho (notDst_spec (dstIs_ok h1 hp) o (List.mem_of_getElem? hi))
      | succ j =>
        simp at hi hj
        rw [dstsApart_spec h2 i j o p d hi hj ho hp]
theorem edgesIn_spec {done : List Nat} : ∀ {l : List Edge}, edgesIn done l = true → ∀ e ∈ l, Region.binds .any e = true → e.on ∈ done
  | [], _, _, h, _ => by cases h
  | q :: l, e, x, h, hb => by
    simp only [edgesIn] at e
    cases hq : Region.binds .any q with
    | true =>
      rw [hq] at e
      simp only [cond_true] at e
      obtain ⟨h1, h2⟩ := bif_true e
      rcases List.mem_cons.1 h with rfl | h
      · exact has_iff.1 h1
      · exact edgesIn_spec h2 x h hb
    | false =>
      rw [hq] at e
      rcases List.mem_cons.1 h with rfl | h
      · rw [hq] at hb; cases hb
      · exact edgesIn_spec e x h hb
theorem allIn_spec {m : Nat} : ∀ {l : List Nat}, allIn m l = true → ∀ e ∈ l, Nat.testBit m e = true
  | [], _, _, h => by cases h
  | q :: l, e, x, h => by
    simp only [allIn] at e
    obtain ⟨h1, h2⟩ := bif_true e
    rcases List.mem_cons.1 h with rfl | h
    · exact h1
    · exact allIn_spec h2 x h
def isAct (P : Program) (ops : List Oper) (i : Nat) : Bool := match nth ops i with
  | some o => Nat.beq (cls o.op P) 3
  | none => false
def doneAt (L : List (Nat × Nat)) (d : List Nat) (m : Nat) : List Nat := ((L.take m).map (·.1)).reverse ++ d
def actsAt (P : Program) (ops : List Oper) (L : List (Nat × Nat)) (d : List Nat) (m : Nat) : List Nat := (((L.take m).map (·.1)).filter (isAct P ops)).reverse ++ d
def sinceAt (P : Program) (ops : List Oper) : List (Nat × Nat) → List Nat → Nat → List Nat
  | _, s, 0 => s
  | [], s, _ => s
  | y :: L, s, m + 1 => sinceAt P ops L (bif isAct P ops y.1 then [] else y.1 :: s) m
theorem mem_sinceAt {ops : List Oper} {i : Nat} : ∀ {L : List (Nat × Nat)} {s : List Nat} {m : Nat}, i ∈ sinceAt P ops L s m →
    (i ∈ s ∧ ∀ (q : Nat) (z : Nat × Nat), q < m → L[q]? = some z → isAct P ops z.1 = false) ∨
    ∃ (m' : Nat) (y : Nat × Nat), m' < m ∧ L[m']? = some y ∧ y.1 = i ∧ ∀ (q : Nat) (z : Nat × Nat), m' ≤ q → q < m → L[q]? = some z → isAct P ops z.1 = false
  | _, s, 0, h => by
    have h : i ∈ s := by simpa [sinceAt] using h
    exact .inl ⟨h, fun q z hq => by omega⟩
  | [], s, m + 1, h => .inl ⟨h, fun q z _ hz => by simp at hz⟩
  | y :: L, s, m + 1, h => by
    simp only [sinceAt] at h
    cases hb : isAct P ops y.1 with
    | true =>
      rw [hb] at h
      rcases mem_sinceAt h with ⟨h1, _⟩ | ⟨m', z, h1, h2, h3, h4⟩
      · cases h1
      · refine .inr ⟨m' + 1, z, by omega, by simpa using h2, h3, fun q z' hq1 hq2 hz => ?_⟩
        obtain ⟨q, rfl⟩ : ∃ q', q = q' + 1 := ⟨q - 1, by omega⟩
        exact h4 q z' (by omega) (by omega) (by simpa using hz)
    | false =>
      rw [hb] at h
      rcases mem_sinceAt h with ⟨h1, h5⟩ | ⟨m', z, h1, h2, h3, h4⟩
      · have all : ∀ (q : Nat) (z : Nat × Nat), q < m + 1 → (y :: L)[q]? = some z → isAct P ops z.1 = false := by
          intro q z hq hz
          cases q with
          | zero => simp at hz; subst hz; exact hb
          | succ q => exact h5 q z (by omega) (by simpa using hz)
        rcases List.mem_cons.1 h1 with rfl | h1
        · exact .inr ⟨0, y, by omega, rfl, rfl, fun q z _ hq hz => all q z hq hz⟩
        · exact .inl ⟨h1, all⟩
      · refine .inr ⟨m' + 1, z, by omega, by simpa using h2, h3, fun q z' hq1 hq2 hz => ?_⟩
        obtain ⟨q, rfl⟩ : ∃ q', q = q' + 1 := ⟨q - 1, by omega⟩
        exact h4 q z' (by omega) (by omega) (by simpa using hz)
theorem allHas_spec {done : List Nat} : ∀ {n : Nat}, allHas done n = true → ∀ i, i < n → i ∈ done
  | 0, _, i, h => by omega
  | n + 1, e, i, h => by
    simp only [allHas] at e
    obtain ⟨h1, h2⟩ := bif_true e
    by_cases hi : i = n
    · subst hi; exact has_iff.1 h1
    · exact allHas_spec h2 i (by omega)
theorem walkOk_spec {ops : List Oper} {ms : List Nat} : ∀ {L : List (Nat × Nat)} {done acts since : List Nat}, walkOk P ops ms L done acts since = true →
    (∀ i, i < ops.length → i ∈ doneAt L done L.length) ∧
    ∀ (m : Nat) (x : Nat × Nat), L[m]? = some x → ∃ o, ops[x.1]? = some o ∧ x.1 ∉ doneAt L done m ∧ (∀ e ∈ o.after, Region.binds .any e = true → e.on ∈ doneAt L done m) ∧
      placeOk ops o.op (cls o.op P) ((ms[x.1]?).getD 0) x.2 (doneAt L done m) (actsAt P ops L acts m) (sinceAt P ops L since m) = true
  | [], done, acts, since, e => by
    simp only [walkOk] at e
    refine ⟨fun i hi => ?_, fun m x h => by simp at h⟩
    have := allHas_spec e i (by rw [lenN_eq]; exact hi)
    simpa [doneAt] using this
  | y :: L, done, acts, since, e => by
    simp only [walkOk] at e
    split at e
    · cases e
    · rename_i o ho
      have e1 : has done y.1 = false := by
        cases hh : has done y.1 with
        | true => rw [hh] at e; cases e
        | false => rfl
      rw [e1] at e
      simp only [cond_false] at e
      obtain ⟨e2, e⟩ := bif_true e
      obtain ⟨e3, e⟩ := bif_true e
      obtain ⟨k1, k2⟩ := walkOk_spec e
      have hd : ∀ m, doneAt (y :: L) done (m + 1) = doneAt L (y.1 :: done) m := fun m => by simp [doneAt]
      have ha : ∀ m, actsAt P ops (y :: L) acts (m + 1) = actsAt P ops L (bif Nat.beq (cls o.op P) 3 then y.1 :: acts else acts) m := fun m => by
        have : isAct P ops y.1 = Nat.beq (cls o.op P) 3 := by simp only [isAct, ho]
        simp only [actsAt, List.take_succ_cons, List.map_cons, List.filter_cons, this]
        cases Nat.beq (cls o.op P) 3 <;> simp
      have hs : ∀ m, sinceAt P ops (y :: L) since (m + 1) = sinceAt P ops L (bif Nat.beq (cls o.op P) 3 then [] else y.1 :: since) m := fun m => by
        have : isAct P ops y.1 = Nat.beq (cls o.op P) 3 := by simp only [isAct, ho]
        simp only [sinceAt, this]
      refine ⟨fun i hi => by rw [List.length_cons, hd]; exact k1 i hi, fun m x hx => ?_⟩
      cases m with
      | zero =>
        simp at hx
        subst hx
        rw [nth_eq] at ho
        refine ⟨o, ho, ?_, ?_, ?_⟩
        · simp only [doneAt, List.take_zero, List.map_nil, List.reverse_nil, List.nil_append]
          intro hm
          rw [has_iff.2 hm] at e1
          cases e1
        · simp only [doneAt, List.take_zero, List.map_nil, List.reverse_nil, List.nil_append]
          intro ed hed
          exact edgesIn_spec e2 ed (by simpa using hed)
        · rw [nth_eq] at e3
          simpa [doneAt, actsAt, sinceAt] using e3
      | succ m =>
        simp at hx
        obtain ⟨o', g1, g2, g3, g4⟩ := k2 m x hx
        exact ⟨o', g1, by rw [hd]; exact g2, fun ed hed hb => by rw [hd]; exact g3 ed hed hb, by rw [hd, ha, hs]; exact g4⟩

theorem tellOk_spec {m i : Nat} : ∀ {l : List Oper} {ms : List Nat} {k0 : Nat}, tellOk m i l ms k0 P = true → ∀ (j : Nat) (p : Oper), l[j]? = some p → cls p.op P = 4 → Nat.testBit m (k0 + j) = true ∨ ∃ mk, ms[j]? = some mk ∧ Nat.testBit mk i = true
  | [], _, _, _, j, p, h, _ => by simp at h
  | q :: l, [], _, e, _, _, _, _ => by simp [tellOk] at e
  | q :: l, mk :: ms, k0, e, j, p, h, hc => by
    simp only [tellOk] at e
    cases j with
    | zero =>
      simp at h
      subst h
      rw [hc] at e
      simp only [show Nat.beq 4 4 = true from rfl, cond_true] at e
      obtain ⟨h1, _⟩ := bif_true e
      cases hm : Nat.testBit m k0 with
      | true => exact .inl rfl
      | false => rw [hm] at h1; exact .inr ⟨mk, rfl, h1⟩
    | succ j =>
      simp at h
      have e' : tellOk m i l ms (Nat.succ k0) P = true := by
        cases hb : Nat.beq (cls q.op P) 4 with
        | true => rw [hb] at e; exact (bif_true e).2
        | false => rw [hb] at e; exact e
      have := tellOk_spec e' j p h hc
      rw [show k0 + (j + 1) = Nat.succ k0 + j by omega]
      simpa using this
theorem tellsOk_spec {all : List Oper} {ams : List Nat} : ∀ {l : List Oper} {ms : List Nat} {i0 : Nat}, tellsOk all ams P l ms i0 = true → ∀ (j : Nat) (o : Oper), l[j]? = some o → (cls o.op P = 1 ∨ cls o.op P = 3) → ∃ m, ms[j]? = some m ∧ tellOk m (i0 + j) all ams 0 P = true
  | [], _, _, _, j, o, h, _ => by simp at h
  | q :: l, [], _, e, _, _, _, _ => by simp [tellsOk] at e
  | q :: l, m :: ms, i0, e, j, o, h, hc => by
    simp only [tellsOk] at e
    cases j with
    | zero =>
      simp at h
      subst h
      have : (bif Nat.beq (cls q.op P) 1 then true else Nat.beq (cls q.op P) 3) = true := by
        rcases hc with h | h <;> rw [h] <;> rfl
      rw [this] at e
      exact ⟨m, rfl, (bif_true e).1⟩
    | succ j =>
      simp at h
      have e' : tellsOk all ams P l ms (Nat.succ i0) = true := by
        cases hb : (bif Nat.beq (cls q.op P) 1 then true else Nat.beq (cls q.op P) 3) with
        | true => rw [hb] at e; exact (bif_true e).2
        | false => rw [hb] at e; exact e
      obtain ⟨m', h3, h4⟩ := tellsOk_spec e' j o h hc
      exact ⟨m', by simpa using h3, by rw [show i0 + (j + 1) = Nat.succ i0 + j by omega]; exact h4⟩

-- THE MACHINE'S OWN STEPS
theorem drawR_steps {call : CallD} {all : List Oper} : ∀ {L : List (Nat × Nat)} {A A' : Act} {sn : List H}, drawR P call all L A sn = .ok A' →
    ∃ (st : Nat → Act) (ss : Nat → List H), st 0 = A ∧ ss 0 = sn ∧ st L.length = A' ∧
      ∀ (m : Nat) (x : Nat × Nat), L[m]? = some x → ∃ o, all[x.1]? = some o ∧ step2 P call all (st m) o x.2 (ss m) = .ok (st (m + 1)) ∧ (st m).h.nx ≤ (st (m + 1)).h.nx ∧ ss (m + 1) = pushH (cls o.op P) (st m).h (ss m)
  | [], A, A', sn, e => by
    simp only [drawR] at e
    cases e
    exact ⟨fun _ => A, fun _ => sn, rfl, rfl, rfl, fun m x h => by simp at h⟩
  | y :: L, A, A', sn, e => by
    simp only [drawR] at e
    split at e
    · rename_i o ho
      obtain ⟨A₁, h1, e⟩ := R.bind_ok e
      obtain ⟨h2, e⟩ := cond_ok e
      obtain ⟨st, ss, k1, k2, k3, k4⟩ := drawR_steps e
      refine ⟨fun m => match m with | 0 => A | m + 1 => st m, fun m => match m with | 0 => sn | m + 1 => ss m, rfl, rfl, k3, fun m x hx => ?_⟩
      cases m with
      | zero =>
        simp at hx
        subst hx
        rw [nth_eq] at ho
        refine ⟨o, ho, ?_, ?_, k2⟩
        · simp only [k1]; exact h1
        · simp only [k1]; rw [ble_eq, decide_eq_true_eq] at h2; exact h2
      | succ m =>
        simp at hx
        exact k4 m x hx
    · cases e
end Go.Dm
namespace Go.Dm
variable {ρ : Env} {P : Program}

def touches (v : V) : Bool := match v with
  | .p _ _ => true
  | .sl _ _ _ _ => true
  | .m _ => true
  | _ => false
theorem read_local {o : Op} {ev : Operand → R V} {h h' : H} {v : V} (e : readOp o P ev h = .ok v) : (∃ x, ev (eyeOf o) = .ok x) ∧
    ((∀ x, ev (eyeOf o) = .ok x → touches x = true → h'.bl.get (blkOf x) = h.bl.get (blkOf x)) → readOp o P ev h' = .ok v) := by
  cases o <;> simp only [readOp] at e <;> try cases e
  case load t x =>
    obtain ⟨y, hy, e'⟩ := R.bind_ok e
    refine ⟨⟨y, hy⟩, fun hl => ?_⟩
    have hl := hl y hy
    simp only [readOp, hy, R.bind]
    rw [← e']
    cases y <;> simp only [loadV]
    rename_i b off
    have := hl rfl
    simp only [blkOf] at this
    simp only [H.cells, this]
  case lookup t x k ok =>
    obtain ⟨y, hy, e'⟩ := R.bind_ok e
    refine ⟨⟨y, hy⟩, fun hl => ?_⟩
    have hl := hl y hy
    simp only [readOp, hy, R.bind]
    rw [← e']
    cases y
    case m b =>
      have := hl rfl
      simp only [blkOf] at this
      simp only [lookMap, H.map, this]
      rfl
    all_goals rfl
  case convert s d x =>
    obtain ⟨el, hel, e'⟩ := R.bind_ok e
    obtain ⟨h1, e2⟩ := cond_ok e'
    obtain ⟨y, hy, e3⟩ := R.bind_ok e2
    refine ⟨⟨y, hy⟩, fun hl => ?_⟩
    have hl := hl y hy
    simp only [readOp, hel, h1, hy, R.bind, cond_true]
    rw [← e3]
    cases y <;> simp only [toStr]
    rename_i b off n c
    have := hl rfl
    simp only [blkOf] at this
    simp only [H.cells, this]
  case call c =>
    obtain ⟨callee, args, ts⟩ := c
    cases callee <;> simp only at e <;> try cases e
    rename_i b
    cases b <;> simp only at e <;> try cases e
    obtain ⟨vs, hvs, e'⟩ := R.bind_ok e
    have hsplit : ∃ x, vs = [x] := by
      revert e'
      split
      · exact fun _ => ⟨_, rfl⟩
      · intro h; cases h
    obtain ⟨y, rfl⟩ := hsplit
    simp only at e'
    have hx : ∃ x, args.toList = [x] ∧ ev x = .ok y := by
      cases hargs : args.toList with
      | nil => rw [hargs] at hvs; cases hvs
      | cons x l =>
        rw [hargs] at hvs
        simp only [mapR] at hvs
        obtain ⟨a, ha, hvs⟩ := R.bind_ok hvs
        obtain ⟨r, hr, hvs⟩ := R.bind_ok hvs
        cases hvs
        cases l with
        | nil => exact ⟨x, rfl, ha⟩
        | cons x' l =>
          simp only [mapR] at hr
          obtain ⟨a', ha', hr⟩ := R.bind_ok hr
          obtain ⟨r', hr', hr⟩ := R.bind_ok hr
          cases hr
    obtain ⟨x, hx, hy⟩ := hx
    refine ⟨⟨y, by simp only [eyeOf, hx, List.headD_cons]; exact hy⟩, fun hl => ?_⟩
    have hl := hl y (by simp only [eyeOf, hx, List.headD_cons]; exact hy)
    simp only [readOp, hvs, R.bind]
    obtain ⟨t, ht, e4⟩ := R.bind_ok e'
    simp only [ht]
    rw [← e4]
    cases y <;> simp only [lenMap]
    rename_i b
    have := hl rfl
    simp only [blkOf] at this
    simp only [H.map, this]
theorem sameCap_eq {a b : Cap} (e : sameCap a b = true) : a = b := by
  cases a <;> cases b <;> simp only [sameCap] at e <;> first | cases e | skip
  · rw [Nat.eq_of_beq_eq_true e]
  · simp only [Bool.and_eq_true] at e
    rw [Nat.eq_of_beq_eq_true e.1, Nat.eq_of_beq_eq_true e.2]
theorem sameA_eq {x y : V} (e : sameA x y = true) : x = y := by
  cases x <;> cases y
  all_goals try (cases e; done)
  all_goals try rfl
  case b.b a c => cases a <;> cases c <;> first | rfl | cases e
  case i.i k a j c =>
    have e : (kindBeq k j && intBeq a c) = true := e
    rw [Bool.and_eq_true] at e
    have e2 := e.2
    rw [intBeq_eq] at e2
    rw [kindBeq_eq e.1, eq_of_beq e2]
  case s.s a c =>
    have e : beqL a c = true := e
    rw [beqL_eq, decide_eq_true_eq] at e
    rw [e]
  case p.p a b c d =>
    have e : (Nat.beq a c && Nat.beq b d) = true := e
    rw [Bool.and_eq_true] at e
    rw [Nat.eq_of_beq_eq_true e.1, Nat.eq_of_beq_eq_true e.2]
  case sl.sl a b c d a' b' c' d' =>
    have e : (Nat.beq a a' && Nat.beq b b' && Nat.beq c c' && sameCap d d') = true := e
    simp only [Bool.and_eq_true] at e
    rw [Nat.eq_of_beq_eq_true e.1.1.1, Nat.eq_of_beq_eq_true e.1.1.2, Nat.eq_of_beq_eq_true e.1.2, sameCap_eq e.2]
  case m.m a b =>
    have e : Nat.beq a b = true := e
    rw [Nat.eq_of_beq_eq_true e]
theorem sameAs_eq : ∀ {x y : List V}, sameAs x y = true → x = y
  | [], [], _ => rfl
  | [], _ :: _, e => by cases e
  | _ :: _, [], e => by cases e
  | a :: x, b :: y, e => by
    simp only [sameAs] at e
    obtain ⟨h1, h2⟩ := bif_true e
    rw [sameA_eq h1, sameAs_eq h2]
theorem sameG_eq {x y : V} (e : sameG x y = true) : x = y := by
  unfold sameG at e
  split at e
  · split at e
    · rw [sameAs_eq e]
    · cases e
  · exact sameA_eq e
theorem sameGs_eq : ∀ {x y : List V}, sameGs x y = true → x = y
  | [], [], _ => rfl
  | [], _ :: _, e => by cases e
  | _ :: _, [], e => by cases e
  | a :: x, b :: y, e => by
    simp only [sameGs] at e
    obtain ⟨h1, h2⟩ := bif_true e
    rw [sameG_eq h1, sameGs_eq h2]
theorem sameV_eq {x y : V} (e : sameV x y = true) : x = y := by
  unfold sameV at e
  split at e
  · split at e
    · rw [sameGs_eq e]
    · cases e
  · exact sameG_eq e
theorem backOk_spec {o : Op} {t : T V} {v : V} {b : Nat} : ∀ {n : Nat} {sn : List H}, backOk P o t v b n sn = .ok () → ∀ r, r < n → ∀ h, sn[r]? = some h → h.nx ≤ b ∨ readOp o P (evalO t) h = .ok v
  | 0, _, _, r, hr, _, _ => by omega
  | n + 1, [], e, _, _, _, _ => by cases e
  | n + 1, k :: sn, e, r, hr, h, hh => by
    simp only [backOk] at e
    have main : backOk P o t v b n sn = .ok () ∧ (k.nx ≤ b ∨ readOp o P (evalO t) k = .ok v) := by
      cases hb : Nat.ble k.nx b with
      | true =>
        rw [hb] at e
        rw [ble_eq, decide_eq_true_eq] at hb
        exact ⟨e, .inl hb⟩
      | false =>
        rw [hb] at e
        simp only [cond_false] at e
        obtain ⟨v', hv', e⟩ := R.bind_ok e
        obtain ⟨hs, g⟩ := cond_ok e
        rw [← sameV_eq hs] at hv'
        exact ⟨g, .inr hv'⟩
    cases r with
    | zero => simp at hh; subst hh; exact main.2
    | succ r => simp at hh; exact backOk_spec main.1 r (by omega) h hh
theorem cls_le (o : Op) : cls o P ≤ 4 := by
  cases o <;> simp only [cls] <;> try omega
  · unfold convCls; repeat' split
    all_goals first | omega | (cases isStr _ <;> simp) | skip
  · unfold calleeCls
    split
    · unfold builtinCls
      repeat' split
      all_goals first | omega | skip
    · omega
end Go.Dm
namespace Go.Dm
variable {ρ : Env} {P : Program}

theorem and_true {x y : Bool} (h : (x && y) = true) : x = true ∧ y = true := by simpa using h
/-- what one step of the machine's is -/
def StepIs (P : Program) (call : CallD) (all : List Oper) (A : Act) (o : Oper) (back : Nat) (sn : List H) (A' : Act) (v : V) : Prop :=
  A'.t = (A.put o.dst v).t ∧
  ((wantedR all A.t o = .ok false ∧ v = undefV ∧ A'.h = A.h) ∨
   (wantedR all A.t o = .ok true ∧
    ((cls o.op P = 0 ∧ pureOp o.op P (evalO A.t) = .ok v ∧ A'.h = A.h) ∨
     (cls o.op P = 1 ∧ readOp o.op P (evalO A.t) A.h = .ok v ∧ A'.h = A.h ∧ ∀ x, evalO A.t (eyeOf o.op) = .ok x → ∀ r, r < back → ∀ h, sn[r]? = some h → h.nx ≤ blkOf x ∨ readOp o.op P (evalO A.t) h = .ok v) ∨
     (cls o.op P = 2 ∧ ∃ b, allocOp o.op P (evalO A.t) A.h.nx = .ok (v, b) ∧ A'.h = A.h.new b) ∨
     (cls o.op P = 3 ∧ effOp o.op P call (evalO A.t) A.h = .ok (v, A'.h)) ∨
     (cls o.op P = 4 ∧ v = undefV ∧ insR o.op P (evalO A.t) A.h = .ok A'.h))))
theorem put_t {A A₁ : Act} {d : Option Nat} {v : V} (h : A₁.t = A.t) : (A₁.put d v).t = (A.put d v).t := by
  cases d <;> simp only [Act.put, h]
theorem step2_is {call : CallD} {all : List Oper} {A A' : Act} {o : Oper} {back : Nat} {sn : List H} (e : step2 P call all A o back sn = .ok A') : ∃ v, StepIs P call all A o back sn A' v := by
  unfold step2 at e
  obtain ⟨b, hb, e⟩ := R.bind_ok e
  cases b with
  | false =>
    cases e
    exact ⟨undefV, rfl, .inl ⟨hb, rfl, put_h _ _ _⟩⟩
  | true =>
    simp only [cond_true] at e
    unfold exec2 at e
    obtain ⟨⟨v, A₁⟩, h1, e⟩ := R.bind_ok e
    simp only [seqV_eq, seqT_eq] at e
    cases e
    have hle := cls_le (P := P) o.op
    generalize hc : cls o.op P = c at h1 hle
    match c, h1, hle with
    | 0, h1, _ =>
      simp only [execB, execC] at h1
      obtain ⟨x, hx, h1⟩ := R.bind_ok h1
      cases h1
      exact ⟨_, rfl, .inr ⟨hb, .inl ⟨hc, hx, put_h _ _ _⟩⟩⟩
    | 1, h1, _ =>
      simp only [execB] at h1
      obtain ⟨x, hx, h1⟩ := R.bind_ok h1
      cases hz : Nat.beq back 0 with
      | true =>
        rw [hz] at h1
        cases h1
        have := Nat.eq_of_beq_eq_true hz
        subst this
        exact ⟨_, rfl, .inr ⟨hb, .inr (.inl ⟨hc, hx, put_h _ _ _, fun _ _ r hr => by omega⟩)⟩⟩
      | false =>
        rw [hz] at h1
        simp only [cond_false] at h1
        obtain ⟨y, hy, h1⟩ := R.bind_ok h1
        obtain ⟨u, hu, h1⟩ := R.bind_ok h1
        cases h1
        refine ⟨_, rfl, .inr ⟨hb, .inr (.inl ⟨hc, hx, put_h _ _ _, fun y' hy' r hr h hh => ?_⟩)⟩⟩
        rw [hy] at hy'
        cases hy'
        exact backOk_spec hu r hr h hh
    | 2, h1, _ =>
      simp only [execB, execC] at h1
      obtain ⟨x, hx, h1⟩ := R.bind_ok h1
      rw [seqT_eq] at h1
      cases h1
      refine ⟨_, put_t rfl, .inr ⟨hb, .inr (.inr (.inl ⟨hc, x.2, hx, put_h _ _ _⟩))⟩⟩
    | 3, h1, _ =>
      simp only [execB, execC] at h1
      unfold withH at h1
      obtain ⟨x, hx, h1⟩ := R.bind_ok h1
      rw [seqT_eq] at h1
      cases h1
      exact ⟨_, put_t rfl, .inr ⟨hb, .inr (.inr (.inr (.inl ⟨hc, by rw [put_h]; exact hx⟩)))⟩⟩
    | 4, h1, _ =>
      simp only [execB] at h1
      obtain ⟨x, hx, h1⟩ := R.bind_ok h1
      rw [seqT_eq] at h1
      cases h1
      exact ⟨_, put_t rfl, .inr ⟨hb, .inr (.inr (.inr (.inr ⟨hc, rfl, by rw [put_h]; exact hx⟩)))⟩⟩
    | n + 5, _, hle => omega
def maskAt (ms : List Nat) (i : Nat) : Nat := (ms[i]?).getD 0
/-- the machine's run of such a region, and what was checked ahead -/
structure Dr (P : Program) (call : CallD) (ops : Array Oper) (ms : List Nat) (L : List (Nat × Nat)) (st : Nat → Act) (ss : Nat → List H) : Prop where
  full : ∀ (i : Nat), i < ops.size → ∃ (m : Nat) (x : Nat × Nat), L[m]? = some x ∧ x.1 = i
  step : ∀ (m : Nat) (x : Nat × Nat), L[m]? = some x → ∃ o : Oper, ops[x.1]? = some o ∧ (∃ v, StepIs P call ops.toList (st m) o x.2 (ss m) (st (m + 1)) v) ∧ (st m).h.nx ≤ (st (m + 1)).h.nx ∧ ss (m + 1) = pushH (cls o.op P) (st m).h (ss m)
  once : ∀ (m : Nat) (m' : Nat) (x : Nat × Nat) (y : Nat × Nat), L[m]? = some x → L[m']? = some y → x.1 = y.1 → m = m'
  edges : ∀ (m : Nat) (x : Nat × Nat) (o : Oper), L[m]? = some x → ops[x.1]? = some o → ∀ e ∈ o.after, Region.binds .any e = true → ∃ (m' : Nat) (y : Nat × Nat), m' < m ∧ L[m']? = some y ∧ y.1 = e.on
  acts : ∀ (m : Nat) (x : Nat × Nat) (o : Oper), L[m]? = some x → ops[x.1]? = some o → cls o.op P = 3 → ∀ (m' : Nat) (y : Nat × Nat), m' < m → L[m']? = some y → Nat.testBit (maskAt ms x.1) y.1 = true
  looks : ∀ (m : Nat) (x : Nat × Nat) (o : Oper), L[m]? = some x → ops[x.1]? = some o → cls o.op P = 1 → ∀ (q : Nat) (y : Nat × Nat) (p : Oper), q < m → L[q]? = some y → ops[y.1]? = some p → cls p.op P = 3 →
    Nat.testBit (maskAt ms x.1) y.1 = true ∨ ∃ r, r < x.2 ∧ (ss m)[r]? = some (st q).h
  reads : ∀ (i : Nat) (o : Oper), ops[i]? = some o → ∀ (k : Nat) (p : Oper) (d : Nat), ops[k]? = some p → p.dst = some d → (d ∈ opTmps o ∨ d ∈ guardTmp ops.toList o) → Nat.testBit (maskAt ms i) k = true ∨ Nat.testBit (maskAt ms k) i = true
  tells : ∀ (i : Nat) (o : Oper), ops[i]? = some o → (cls o.op P = 1 ∨ cls o.op P = 3) → ∀ (k : Nat) (p : Oper), ops[k]? = some p → cls p.op P = 4 → Nat.testBit (maskAt ms i) k = true ∨ Nat.testBit (maskAt ms k) i = true
  maker : ∀ (m : Nat) (x : Nat × Nat) (o : Oper), L[m]? = some x → ops[x.1]? = some o → cls o.op P = 4 → ∃ (ty t m' : Nat) (y : Nat × Nat) (p : Oper), mapTmp o.op = some (ty, t) ∧ m' < m ∧ L[m']? = some y ∧ ops[y.1]? = some p ∧ (∃ r, p.op = .makeMap ty r) ∧ p.dst = some t ∧
    ∀ (q : Nat) (z : Nat × Nat) (oz : Oper), m' ≤ q → q < m → L[q]? = some z → ops[z.1]? = some oz → cls oz.op P ≠ 3
  apart : ∀ (i : Nat) (j : Nat) (o : Oper) (p : Oper) (d : Nat), ops[i]? = some o → ops[j]? = some p → o.dst = some d → p.dst = some d → i = j
  mask : ∀ (i : Nat) (o : Oper), ops[i]? = some o → ∀ (k : Nat), Nat.testBit (maskAt ms i) k = true → ∃ e ∈ o.after, Region.binds .any e = true ∧ (k = e.on ∨ Nat.testBit (maskAt ms e.on) k = true)
theorem bif_some {α : Type} {c : Bool} {a : α} {x : Option α} {q : α} (h : (bif c then some a else x) = some q) : (c = true ∧ a = q) ∨ (c = false ∧ x = some q) := by
  cases c with
  | true => exact .inl ⟨rfl, Option.some.inj h⟩
  | false => exact .inr ⟨rfl, h⟩
theorem isMake_ok {ty : Nat} {o : Op} (h : isMake ty o = true) : ∃ r, o = .makeMap ty r := by
  cases o <;> simp only [isMake] at h <;> try cases h
  rename_i t r
  have := Nat.eq_of_beq_eq_true h
  subst this
  exact ⟨r, rfl⟩
theorem makerIn_spec {ty t : Nat} : ∀ {l : List Oper} {i0 q : Nat}, makerIn ty t l i0 = some q → ∃ (j : Nat) (p : Oper), q = i0 + j ∧ l[j]? = some p ∧ (∃ r, p.op = .makeMap ty r) ∧ p.dst = some t
  | [], _, _, h => by cases h
  | o :: l, i0, q, h => by
    simp only [makerIn] at h
    rcases bif_some h with ⟨hb, he⟩ | ⟨_, h'⟩
    · obtain ⟨h1, h2⟩ := and_true hb
      refine ⟨0, o, he.symm, rfl, isMake_ok h1, ?_⟩
      cases hd : o.dst with
      | none => rw [hd] at h2; cases h2
      | some d => rw [hd] at h2; rw [Nat.eq_of_beq_eq_true h2]
    · obtain ⟨j, p, h1, h2, h3, h4⟩ := makerIn_spec h'
      exact ⟨j + 1, p, by omega, by simpa using h2, h3, h4⟩
theorem insR_ok {o : Op} {t : T V} {h h' : H} (e : insR o P (evalO t) h = .ok h') : ∃ ty s k v b x y m es, o = .insert ty s k v ∧ evalO t s = .ok (.m b) ∧ evalO t k = .ok x ∧ evalO t v = .ok y ∧ tMap P ty = .ok m ∧ keyKd P m.1 = true ∧ kaOf P m.1 x = true ∧ h.map b = .ok es ∧ newKey P m.1 x es = .ok () ∧ h' = h.put b (some (.mp (app es [(x, y)]))) := by
  cases o <;> simp only [insR] at e <;> try cases e
  rename_i ty s k v
  obtain ⟨m, hm, e⟩ := R.bind_ok e
  obtain ⟨x, hx, e⟩ := R.bind_ok e
  obtain ⟨y, hy, e⟩ := R.bind_ok e
  have main : ∃ b, m = .m b ∧ ∃ z es, tMap P ty = .ok z ∧ keyKd P z.1 = true ∧ kaOf P z.1 x = true ∧ h.map b = .ok es ∧ newKey P z.1 x es = .ok () ∧ h' = h.put b (some (.mp (app es [(x, y)]))) := by
    clear hm hx hy
    split at e
    · obtain ⟨z, hz, e⟩ := R.bind_ok e
      obtain ⟨hk, e⟩ := cond_ok e
      obtain ⟨h1, h2⟩ := and_true hk
      obtain ⟨es, hes, e⟩ := R.bind_ok e
      obtain ⟨u, hu, e⟩ := R.bind_ok e
      cases e
      exact ⟨_, rfl, z, es, hz, h1, h2, hes, hu, rfl⟩
    · cases e
  obtain ⟨b, rfl, z, es, hz, h1, h2, hes, hu, he⟩ := main
  exact ⟨ty, s, k, v, b, x, y, z, es, rfl, hm, hx, hy, hz, h1, h2, hes, hu, he⟩
theorem mem_doneAt {L : List (Nat × Nat)} {m i : Nat} : i ∈ doneAt L [] m ↔ ∃ (m' : Nat) (y : Nat × Nat), m' < m ∧ L[m']? = some y ∧ y.1 = i := by
  simp only [doneAt, List.append_nil, List.mem_reverse, List.mem_map]
  constructor
  · rintro ⟨y, hy, rfl⟩
    obtain ⟨m', hm'⟩ := List.getElem?_of_mem hy
    rw [List.getElem?_take] at hm'
    split at hm'
    · exact ⟨m', y, ‹_›, hm', rfl⟩
    · cases hm'
  · rintro ⟨m', y, hm', hy, rfl⟩
    refine ⟨y, ?_, rfl⟩
    apply List.mem_of_getElem? (i := m')
    rw [List.getElem?_take, if_pos hm', hy]
theorem plan_dr {call : CallD} {ops : Array Oper} {L : List (Nat × Nat)} {A A' : Act} (hp : plan P ops.toList = some L) (e : drawR P call ops.toList L A [] = .ok A') :
    ∃ ms st ss, Dr P call ops ms L st ss ∧ st 0 = A ∧ st L.length = A' := by
  unfold plan planIn at hp
  generalize ancs ops.toList [] = ms at hp
  generalize order P ops.toList ms (acts P ops.toList 0) (lenN ops.toList 0) (acts P ops.toList 0) 0 0 = L' at hp
  cases hk : planOk P ops.toList ms L' with
  | false => rw [hk] at hp; cases hp
  | true =>
    rw [hk] at hp
    cases hp
    unfold planOk at hk
    simp only [Bool.and_eq_true] at hk
    obtain ⟨⟨⟨⟨k1, k2⟩, k3⟩, k5⟩, k4⟩ := hk
    obtain ⟨st, ss, s0, s1, s2, s3⟩ := drawR_steps e
    obtain ⟨w1, w2⟩ := walkOk_spec k4
    have gop : ∀ (i : Nat) (o : Oper), ops.toList[i]? = some o ↔ ops[i]? = some o := fun i o => by rw [Array.getElem?_toList]
    have hmask : ∀ (i : Nat) (o : Oper), ops[i]? = some o → maskAt ms i = maskOf ms o := fun i o ho => by
      simp only [maskAt, ancOk_spec k1 i o ((gop i o).2 ho), Option.getD_some]
    have once : ∀ (m m' : Nat) (x y : Nat × Nat), L[m]? = some x → L[m']? = some y → x.1 = y.1 → m = m' := by
      have lt : ∀ (m m' : Nat) (x y : Nat × Nat), L[m]? = some x → L[m']? = some y → x.1 = y.1 → ¬ m < m' := by
        intro m m' x y hx hy he hlt
        obtain ⟨o, _, h2, _⟩ := w2 m' y hy
        exact h2 (mem_doneAt.2 ⟨m, x, hlt, hx, he⟩)
      intro m m' x y hx hy he
      have a := lt m m' x y hx hy he
      have b := lt m' m y x hy hx he.symm
      omega
    refine ⟨ms, st, ss, ⟨?_, ?_, once, ?_, ?_, ?_, ?_, ?_, ?_, ?_, ?_⟩, s0, s2⟩
    · intro i hi
      obtain ⟨m, y, _, h2, h3⟩ := mem_doneAt.1 (w1 i (by simpa using hi))
      exact ⟨m, y, h2, h3⟩
    · intro m x hx
      obtain ⟨o, h1, h2, h3, h4⟩ := s3 m x hx
      exact ⟨o, (gop _ _).1 h1, step2_is h2, h3, h4⟩
    · intro m x o hx ho ed hed hb
      obtain ⟨o', h1, _, h3, _⟩ := w2 m x hx
      rw [gop, ho] at h1
      cases h1
      exact mem_doneAt.1 (h3 ed hed hb)
    · intro m x o hx ho hc m' y hm' hy
      obtain ⟨o', h1, _, _, h4⟩ := w2 m x hx
      rw [gop, ho] at h1
      cases h1
      rw [hc] at h4
      exact allIn_spec h4 _ (mem_doneAt.2 ⟨m', y, hm', hy, rfl⟩)
    · intro m x o hx ho hc q y p hq hy hp' hcp
      obtain ⟨o', h1, _, _, h4⟩ := w2 m x hx
      rw [gop, ho] at h1
      cases h1
      rw [hc] at h4
      -- acts and snapshots run side by side
      have side : ∀ (m' : Nat), m' ≤ L.length → (actsAt P ops.toList L [] m').length = (ss m').length ∧ ∀ (q : Nat) (y : Nat × Nat) (p : Oper), q < m' → L[q]? = some y → ops[y.1]? = some p → cls p.op P = 3 → ∃ r : Nat, (actsAt P ops.toList L [] m')[r]? = some y.1 ∧ (ss m')[r]? = some (st q).h := by
        intro m'
        induction m' with
        | zero =>
          intro _
          refine ⟨by rw [s1]; simp [actsAt], fun q y p hq => by omega⟩
        | succ m' ih =>
          intro hle
          obtain ⟨ih1, ih2⟩ := ih (by omega)
          have hm' : L[m']? = some (L[m']'(by omega)) := List.getElem?_eq_getElem (by omega)
          generalize hz : L[m']'(by omega) = z at hm'
          obtain ⟨oz, g1, _, _, g4⟩ := s3 m' z hm'
          have hact : isAct P ops.toList z.1 = Nat.beq (cls oz.op P) 3 := by simp only [isAct, nth_eq, g1]
          have happ : actsAt P ops.toList L [] (m' + 1) = if isAct P ops.toList z.1 = true then z.1 :: actsAt P ops.toList L [] m' else actsAt P ops.toList L [] m' := by
            simp only [actsAt, List.append_nil]
            rw [List.take_add_one, hm']
            simp only [Option.toList_some, List.map_append, List.map_cons, List.map_nil, List.filter_append, List.filter_cons, List.filter_nil, List.reverse_append]
            split <;> simp
          rw [g4, happ, hact]
          simp only [pushH]
          cases hb : Nat.beq (cls oz.op P) 3 with
          | true =>
            simp only [if_true, cond_true, List.length_cons, ih1, true_and]
            intro q y p hq hy hp hcp
            by_cases hqm : q = m'
            · subst hqm
              rw [hm'] at hy
              cases hy
              exact ⟨0, rfl, rfl⟩
            · obtain ⟨r, r1, r2⟩ := ih2 q y p (by omega) hy hp hcp
              exact ⟨r + 1, by simpa using r1, by simpa using r2⟩
          | false =>
            simp only [Bool.false_eq_true, if_false, cond_false, ih1, true_and]
            intro q y p hq hy hp hcp
            by_cases hqm : q = m'
            · subst hqm
              rw [hm'] at hy
              cases hy
              rw [gop] at g1
              rw [g1] at hp
              cases hp
              rw [hcp] at hb
              cases hb
            · exact ih2 q y p (by omega) hy hp hcp
      have hml : m < L.length := (List.getElem?_eq_some_iff.1 hx).1
      obtain ⟨r, r1, r2⟩ := (side m (by omega)).2 q y p hq hy hp' hcp
      by_cases hr : r < x.2
      · exact .inr ⟨r, hr, r2⟩
      · refine .inl (allIn_spec h4 _ ?_)
        rw [dropN_eq]
        apply List.mem_of_getElem? (i := r - x.2)
        rw [List.getElem?_drop, show x.2 + (r - x.2) = r by omega]
        exact r1
    · intro i o ho k p d hp' hd hm
      obtain ⟨m, h1, h2⟩ := readsOk_spec k2 i o ((gop _ _).2 ho)
      have := readOk_spec h2 k p d ((gop _ _).2 hp') hd (by rw [app_eq]; exact List.mem_append.2 hm)
      rw [Nat.zero_add, Nat.zero_add] at this
      have hmi : maskAt ms i = m := by simp only [maskAt, h1, Option.getD_some]
      rw [hmi]
      refine this.imp id ?_
      rintro ⟨mk, h3, h4⟩
      simp only [maskAt, h3, Option.getD_some]
      exact h4
    · intro i o ho hc k p hp' hcp
      obtain ⟨m, h1, h2⟩ := tellsOk_spec k5 i o ((gop _ _).2 ho) hc
      rw [Nat.zero_add] at h2
      have hmi : maskAt ms i = m := by simp only [maskAt, h1, Option.getD_some]
      rw [hmi]
      rcases tellOk_spec h2 k p ((gop _ _).2 hp') hcp with h | ⟨mk, h3, h4⟩
      · exact .inl (by simpa using h)
      · exact .inr (by simp only [maskAt, h3, Option.getD_some]; exact h4)
    · intro m x o hx ho hc
      obtain ⟨o', h1, _, _, h4⟩ := w2 m x hx
      rw [gop, ho] at h1
      cases h1
      rw [hc] at h4
      have h4 : makerOk ops.toList o.op (sinceAt P ops.toList L [] m) = true := h4
      unfold makerOk at h4
      cases ht : mapTmp o.op with
      | none => rw [ht] at h4; cases h4
      | some t =>
        rw [ht] at h4
        simp only at h4
        obtain ⟨ty, t⟩ := t
        cases hq : makerIn ty t ops.toList 0 with
        | none => rw [hq] at h4; cases h4
        | some q =>
          rw [hq] at h4
          obtain ⟨j, p, hj, h5, h6, h7⟩ := makerIn_spec hq
          rcases mem_sinceAt (has_iff.1 h4) with ⟨h8, _⟩ | ⟨m', y, h8, h9, h10, h11⟩
          · cases h8
          · have hyj : y.1 = j := by omega
            refine ⟨ty, t, m', y, p, rfl, h8, h9, by rw [hyj]; exact (gop _ _).1 h5, h6, h7, fun q' z oz g1 g2 g3 g4 g5 => ?_⟩
            have := h11 q' z g1 g2 g3
            simp only [isAct, nth_eq, (gop _ _).2 g4, g5] at this
            cases this
    · intro i j o p d hi hj
      exact dstsApart_spec k3 i j o p d ((gop _ _).2 hi) ((gop _ _).2 hj)
    · intro i o ho k hk
      rw [hmask i o ho] at hk
      rcases foldl_mask _ _ hk with h | ⟨ed, h1, h2, h3⟩
      · simp at h
      · refine ⟨ed, by simpa using h1, h2, h3.imp id ?_⟩
        rintro ⟨m, h4, h5⟩
        simp only [maskAt, h4, Option.getD_some]
        exact h5

/-- the operation at place k makes this entry in map b -/
def EntryAt (ops : Array Oper) (L : List (Nat × Nat)) (st : Nat → Act) (k b : Nat) (x y : V) : Prop :=
  ∃ z o ty s kk vv, L[k]? = some z ∧ ops[z.1]? = some o ∧ o.op = .insert ty s kk vv ∧ wantedR ops.toList (st k).t o = .ok true ∧ evalO (st k).t s = .ok (.m b) ∧ evalO (st k).t kk = .ok x ∧ evalO (st k).t vv = .ok y
section
variable {call : CallD} {ops : Array Oper} {ms : List Nat} {L : List (Nat × Nat)} {st : Nat → Act} {ss : Nat → List H} (D : Dr P call ops ms L st ss)
include D
theorem Dr.nx_mono : ∀ {m m' : Nat}, m ≤ m' → m' ≤ L.length → (st m).h.nx ≤ (st m').h.nx := by
  intro m m'
  induction m' with
  | zero => intro h _; rw [show m = 0 by omega]; exact Nat.le_refl _
  | succ m' ih =>
    intro h hl
    by_cases he : m = m' + 1
    · rw [he]; exact Nat.le_refl _
    · obtain ⟨o, _, _, h3, _⟩ := D.step m' _ (List.getElem?_eq_getElem (by omega))
      exact Nat.le_trans (ih (by omega) (by omega)) h3
/-- who must come first is first -/
theorem Dr.before : ∀ (m : Nat) (x : Nat × Nat), L[m]? = some x → ∀ k, Nat.testBit (maskAt ms x.1) k = true → ∃ (q : Nat) (y : Nat × Nat), q < m ∧ L[q]? = some y ∧ y.1 = k := by
  intro m
  induction m using Nat.strongRecOn with
  | _ m ih =>
    intro x hx k hk
    obtain ⟨o, ho, _⟩ := D.step m x hx
    obtain ⟨e, he, hb, h⟩ := D.mask x.1 o ho k hk
    obtain ⟨m', y, hm', hy, hye⟩ := D.edges m x o hx ho e he hb
    rcases h with rfl | h
    · exact ⟨m', y, hm', hy, hye⟩
    · rw [← hye] at h
      obtain ⟨q, z, hq, hz, hzk⟩ := ih m' hm' y hy k h
      exact ⟨q, z, by omega, hz, hzk⟩
/-- a slot that nobody writes stays -/
theorem Dr.slot {d : Nat} : ∀ {m m' : Nat}, m ≤ m' → m' ≤ L.length → (∀ (q : Nat) (x : Nat × Nat) (o : Oper), m ≤ q → q < m' → L[q]? = some x → ops[x.1]? = some o → o.dst ≠ some d) → (st m').t.get d = (st m).t.get d := by
  intro m m'
  induction m' with
  | zero => intro h _ _; rw [show m = 0 by omega]
  | succ m' ih =>
    intro h hl hn
    by_cases he : m = m' + 1
    · rw [he]
    · have hx : L[m']? = some (L[m']'(by omega)) := List.getElem?_eq_getElem (by omega)
      obtain ⟨o, ho, ⟨v, h1, _⟩, _⟩ := D.step m' _ hx
      have hd := hn m' _ o (by omega) (by omega) hx ho
      rw [← ih (by omega) (by omega) fun q x o h1 h2 => hn q x o h1 (by omega), h1]
      cases hdst : o.dst with
      | none => simp only [Act.put]
      | some d' =>
        simp only [Act.put]
        rw [T.get_set_ne]
        intro e
        exact hd (by rw [hdst, e])
/-- its writer's value -/
theorem Dr.wrote {q : Nat} {x : Nat × Nat} {o : Oper} {d m : Nat} (hx : L[q]? = some x) (ho : ops[x.1]? = some o) (hd : o.dst = some d) (hm : q < m) (hl : m ≤ L.length) : (st m).t.get d = (st (q + 1)).t.get d := by
  refine D.slot (by omega) hl fun q' x' o' h1 h2 hx' ho' hd' => ?_
  have := D.apart _ _ _ _ _ ho ho' hd hd'
  have := D.once q q' x x' hx hx' this
  omega
/-- no act in between: blocks stay -/
theorem Dr.block {b : Nat} : ∀ {m m' : Nat}, m ≤ m' → m' ≤ L.length → b < (st m).h.nx → (∀ (q : Nat) (x : Nat × Nat) (o : Oper), m ≤ q → q < m' → L[q]? = some x → ops[x.1]? = some o → cls o.op P ≠ 3) → (∀ (q : Nat) (x y : V), m ≤ q → q < m' → ¬ EntryAt ops L st q b x y) → (st m').h.bl.get b = (st m).h.bl.get b := by
  intro m m'
  induction m' with
  | zero => intro h _ _ _ _; rw [show m = 0 by omega]
  | succ m' ih =>
    intro h hl hb hn hne
    by_cases he : m = m' + 1
    · rw [he]
    · have hx : L[m']? = some (L[m']'(by omega)) := List.getElem?_eq_getElem (by omega)
      obtain ⟨o, ho, ⟨v, h1, h2⟩, _⟩ := D.step m' _ hx
      rw [← ih (by omega) (by omega) hb (fun q x o h1 h2 => hn q x o h1 (by omega)) fun q x y h1 h2 => hne q x y h1 (by omega)]
      rcases h2 with ⟨_, _, hh⟩ | ⟨hw, h2⟩
      · rw [hh]
      · rcases h2 with ⟨_, _, hh⟩ | ⟨_, _, hh, _⟩ | ⟨_, b', _, hh⟩ | ⟨hc, _⟩ | ⟨hc, _, hi⟩
        · rw [hh]
        · rw [hh]
        · rw [hh]
          have := D.nx_mono (m := m) (m' := m') (by omega) (by omega)
          exact new_get_ne _ _ (by omega)
        · exact absurd hc (hn m' _ o (by omega) (by omega) hx ho)
        · obtain ⟨ty, s, k, v', bb, x, y, mm, es, e1, e2, e4, e5, _, _, _, _, _, e3⟩ := insR_ok hi
          have hne : bb ≠ b := by
            rintro rfl
            exact hne m' x y (by omega) (by omega) ⟨_, o, ty, s, k, v', hx, ho, e1, hw, e2, e4, e5⟩
          rw [e3]
          simp only [H.put]
          rw [T.get_set_ne _ _ _ _ _ hne]
end
end Go.Dm
