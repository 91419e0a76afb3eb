/- Tables of closed calls. -/
import Derived.Test.YtfpainkkolggiaaGreatDmG
import Derived.ProofKit
import Derived.Carry
import Derived.OpenShut
namespace Go.Dm
variable {ρ : Env} {P : Program}
def sameEs : List (V × V) → List (V × V) → Bool
  | [], [] => true
  | a :: x, b :: y => bif sameG a.1 b.1 then (bif sameG a.2 b.2 then sameEs x y else false) else false
  | _, _ => false
def sameB (a b : Blk) : Bool := match a with
  | .cells c => (match b with | .cells d => sameGs c d | _ => false)
  | .mp c => (match b with | .mp d => sameEs c d | _ => false)
def sameBs : List Blk → List Blk → Bool
  | [], [] => true
  | a :: x, b :: y => bif sameB a b then sameBs x y else false
  | _, _ => false
def sameQ (a b : V × List Blk) : Bool := sameV a.1 b.1 && sameBs a.2 b.2
theorem sameEs_eq : ∀ {x y : List (V × V)}, sameEs x y = true → x = y
  | [], [], _ => rfl
  | [], _ :: _, e => by cases e
  | _ :: _, [], e => by cases e
  | a :: x, b :: y, e => by
    simp only [sameEs] at e
    obtain ⟨h1, e⟩ := bif_true e
    obtain ⟨h2, h3⟩ := bif_true e
    obtain ⟨a1, a2⟩ := a
    obtain ⟨b1, b2⟩ := b
    have e1 := sameG_eq h1
    have e2 := sameG_eq h2
    simp only at e1 e2
    rw [e1, e2, sameEs_eq h3]
theorem sameB_eq {a b : Blk} (e : sameB a b = true) : a = b := by
  cases a <;> cases b <;> simp only [sameB] at e <;> first | cases e | skip
  · rw [sameGs_eq e]
  · rw [sameEs_eq e]
theorem sameBs_eq : ∀ {x y : List Blk}, sameBs x y = true → x = y
  | [], [], _ => rfl
  | [], _ :: _, e => by cases e
  | _ :: _, [], e => by cases e
  | a :: x, b :: y, e => by
    simp only [sameBs] at e
    obtain ⟨h1, h2⟩ := bif_true e
    rw [sameB_eq h1, sameBs_eq h2]
theorem sameQ_eq {a b : V × List Blk} (e : sameQ a b = true) : a = b := by
  simp only [sameQ, Bool.and_eq_true] at e
  obtain ⟨a1, a2⟩ := a
  obtain ⟨b1, b2⟩ := b
  have e1 := sameV_eq e.1
  have e2 := sameBs_eq e.2
  simp only at e1 e2
  rw [e1, e2]
/-- a closed call: its arguments, the blocks that are kept, its answer -/
structure Ent where
  args : List V
  ks : List Nat
  q : V × List Blk
def entOk (call : CallD) (f : Nat) (x : Ent) : Bool := bif plains x.args then (match closedR call f x.args x.ks with | .ok q => sameQ q x.q | .err _ => false) else false
theorem entOk_ok {call : CallD} {f : Nat} {x : Ent} (h : entOk call f x = true) : plains x.args = true ∧ closedR call f x.args x.ks = .ok x.q := by
  unfold entOk at h
  obtain ⟨h1, h⟩ := bif_true h
  refine ⟨h1, ?_⟩
  split at h
  · rename_i q hq
    rw [hq, sameQ_eq h]
  · cases h
def entsOk (call : CallD) (f : Nat) : List Ent → Bool
  | [] => true
  | x :: l => bif entOk call f x then entsOk call f l else false
theorem entsOk_ok {call : CallD} {f : Nat} : ∀ {l : List Ent}, entsOk call f l = true → ∀ x ∈ l, entOk call f x = true
  | [], _, _, h => by cases h
  | a :: l, e, x, h => by
    simp only [entsOk] at e
    obtain ⟨h1, h2⟩ := bif_true e
    rcases List.mem_cons.1 h with rfl | h
    · exact h1
    · exact entsOk_ok h2 x h
/-- a call without arguments -/
def memo0 (q : V × List Blk) (args : List V) (h : H) : R (V × H) := match args with
  | [] => .ok (laid q h)
  | _ => .err 440
theorem memo0_ok {call : CallD} (hc : CallOk ρ P call) {f : Nat} {ks : List Nat} {q : V × List Blk} (h : entOk call f ⟨[], ks, q⟩ = true) : CallOk ρ P fun g args h => if g = f then memo0 q args h else .err 0 := by
  refine memo_ok hc f (memo0 q) fun args hh r e => ?_
  cases args with
  | nil =>
    cases e
    obtain ⟨h1, h2⟩ := entOk_ok h
    exact ⟨h1, ks, q, h2, rfl⟩
  | cons a l => cases e
/-- calls of two numbers -/
def memo2 (rows : List (List Ent)) (args : List V) (h : H) : R (V × H) := match args with
  | [.i _ (.ofNat s), .i _ (.ofNat e)] => (ofOpt 441 (nth rows s)).bind fun row => (ofOpt 442 (nth row e)).bind fun x => bif sameAs x.args args then .ok (laid x.q h) else .err 443
  | _ => .err 444
theorem memo2_ok {call : CallD} (hc : CallOk ρ P call) {f : Nat} {rows : List (List Ent)} (h : ∀ row ∈ rows, entsOk call f row = true) : CallOk ρ P fun g args h => if g = f then memo2 rows args h else .err 0 := by
  refine memo_ok hc f (memo2 rows) fun args hh r e => ?_
  unfold memo2 at e
  split at e
  · obtain ⟨row, h1, e⟩ := R.bind_ok e
    obtain ⟨x, h2, e⟩ := R.bind_ok e
    obtain ⟨h3, e⟩ := cond_ok e
    cases e
    have h1 := ofOpt_ok h1
    have h2 := ofOpt_ok h2
    rw [nth_eq] at h1 h2
    obtain ⟨g1, g2⟩ := entOk_ok (entsOk_ok (h row (List.mem_of_getElem? h1)) x (List.mem_of_getElem? h2))
    rw [sameAs_eq h3] at g1 g2
    exact ⟨g1, x.ks, x.q, g2, rfl⟩
  · cases e
/-- summaries by numbers -/
def sumOf : List (Nat × (List V → H → R (V × H))) → Sums
  | [] => fun _ => none
  | x :: l => fun f => bif Nat.beq f x.1 then some x.2 else sumOf l f
theorem sumOf_ok : ∀ {l : List (Nat × (List V → H → R (V × H)))}, (∀ x ∈ l, CallOk ρ P fun g args h => if g = x.1 then x.2 args h else .err 0) → SumsOk ρ P (sumOf l)
  | [], _ => fun f s h => by cases h
  | x :: l, hl => fun f s h => by
    simp only [sumOf] at h
    cases hb : Nat.beq f x.1 with
    | true =>
      rw [hb] at h
      cases h
      have := Nat.eq_of_beq_eq_true hb
      subst this
      exact hl x List.mem_cons_self
    | false =>
      rw [hb] at h
      exact sumOf_ok (fun y hy => hl y (List.mem_cons_of_mem _ hy)) f s h
end Go.Dm
namespace Go.Dm
open Go.ChangeShapes Go.WideShapes Go.ChangeAt Go.RowKit
variable {P : Program}
/-- of what was there nothing has turned -/
structure Stays (w w' : World) : Prop where
  size : w.heap.size ≤ w'.heap.size
  block : ∀ m, m < w.heap.size → w'.heap[m]? = w.heap[m]?
  os : w'.os = w.os
  output : w'.output = w.output
theorem Stays.frame {W w' : World} (h : Stays W w') (may : MemPlace → Prop) : W.keptBut w' may := by
  refine ⟨h.os, h.output, fun i hi => ?_⟩
  rw [h.block i hi]
  split <;> simp_all
theorem Stays.same {W w' : World} (h : Stays W w') {p : MemPlace} (hp : p.block < W.heap.size) : W.sameAt w' p := by
  cases p with
  | cell b o => exact World.cell?_of_block (w := W) (h.block b hp)
  | map b => exact h.block b hp
theorem trodAll_stay {H : Type} {enc : TypeId × Value → H} (hl : laidOutB P = true) {W W' : World} (hs : Stays W W') : ∀ {ts : List TypeId} {vs : List Value} {ds : List (DataW H)} {ps : List MemPlace}, (∀ t ∈ ts, P.readableRec t = true ∧ t < P.types.size) → (∀ p ∈ ps, p.block < W.heap.size) →
    DataW.TrodAll enc P W 0 (fun _ => true) true ts vs ds ps → DataW.TrodAll enc P W' 0 (fun b => decide (b < W.heap.size)) true ts vs ds ps
  | [], vs, ds, ps, _, _, h => by
    obtain ⟨rfl, rfl, rfl⟩ := trodAll_nil h
    exact rfl
  | t :: ts, vs, ds, ps, ht, hp, h => by
    obtain ⟨v, vs1, d, ds1, a, b, rfl, rfl, rfl, h1, h2⟩ := trodAll_cons h
    obtain ⟨g1, g2⟩ := ht t List.mem_cons_self
    refine ⟨a, b, WideElems.Trod_stays hl g1 g2 h1 (fun x hx => hs.same (hp x (List.mem_append_left _ hx))) (fun x hx => by simpa using hp x (List.mem_append_left _ hx)), ?_, rfl⟩
    exact trodAll_stay hl hs (fun t' ht' => ht t' (List.mem_cons_of_mem _ ht')) (fun x hx => hp x (List.mem_append_right _ hx)) h2
theorem law_post {H : Type} {enc : TypeId × Value → H} {W W' : World} {fn : Func} {s : ChangeSpec} {args : Array Value} {ds gs : List (DataW H)} {before : List MemPlace} {tb : Nat} (hl : laidOutB P = true) (hts : fn.params.toList.all (fun t => P.readableRec t && decide (t < P.types.size)) = true) (hrt : fn.resultTypes = #[tb]) (htb : P.underlying tb = some .bool)
    (hvars : s.vars = []) (hfn : s.fn H (ds ++ gs) = { results := [.lit (.bool true)], args := ds }) (hW : DataW.Whole enc P fn.params.toList s.vars false W args.toList ds gs before) (hs : Stays W W') : s.post enc P fn false true false false W args (.bool true) W' := by
  have hW' := hW
  have hlt := hW.lt
  obtain ⟨p, q, hA, hV, rfl, _, _⟩ := hW
  rw [hvars] at hV
  obtain ⟨rfl, rfl⟩ := trodVars_none hV
  refine ⟨ds, [], p ++ [], [], p, [], hW', ?_, ?_, ?_, hs.frame _, fun h => by cases h⟩
  · rw [hfn, hrt]
    exact trodAll_cons_mk (shut_bool htb _) trodAll_mk0
  · rw [hfn]
    refine trodAll_stay hl hs (fun t ht => ?_) (fun x hx => hlt x (List.mem_append_left _ hx)) hA
    have := List.all_eq_true.1 hts t ht
    simpa using this
  · rw [hfn, hvars]
    exact rfl
end Go.Dm
