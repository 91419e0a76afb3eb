/- Of a nil and of a zero subscriber: the machine's run. -/
import Derived.Test.YtfpainkkolggiaaGreatSubK
namespace Go.Dm
open Go.Proofs
def aliveQ : V × List Blk := (.b true, [])
noncomputable def L4 : List (Nat × (List V → H → R (V × H))) := (7, memo0 aliveQ) :: L3
theorem ok4 {ρ : Env} : SumsOk ρ Tryz.prog (sumOf L4) := sumOf_ok fun x hx => by
  simp only [L4, L3, L0, List.mem_cons, List.not_mem_nil, or_false] at hx
  rcases hx with rfl | rfl | rfl | rfl
  · exact memo0_ok call3_ok alive_q
  · exact next_ok
  · exact clone113
  · exact copy261
noncomputable def callN : CallD := callR Tryz.prog (sumOf L4) 20
theorem call_body {P : Program} {S : Sums} {n f : Nat} {args : List V} {h : H} {c : Code} (hS : S f = none) (hf : (funcOk P f && Nat.beq (lenN args 0) (nargsOf P f)) = true) (hb : bodyOf P f = .ok c) :
    callR P S (n + 1) f args h = (codeR P (callR P S n) c ⟨setArgs args 0 .e, h⟩).bind (leave P f) := by
  simp only [callR, hS, hf, cond_true, hb, R.bind]
/-- the parts of a text -/
def seqL (c : Code) : Code := match c with | .seq x _ => x | c => c
def seqR (c : Code) : Code := match c with | .seq _ y => y | c => c
def bodyC (P : Program) (f : Nat) : Code := match bodyOf P f with | .ok c => c | .err _ => .skip
def actOf (r : R (X × Act)) : Act := match r with | .ok x => x.2 | .err _ => ⟨.e, H0⟩
def condX (c : Code) : Code := match c with | .cond _ x _ => x | c => c
def condY (c : Code) : Code := match c with | .cond _ _ y => y | c => c
noncomputable def trueIn (f : Nat) (r : R (X × Act)) : Bool := match r.bind (leave Tryz.prog f) with | .ok x => (match x.1 with | .b b => b | _ => false) | .err _ => false
noncomputable def b6 : Code := bodyC Tryz.prog 6
noncomputable def act0 (args : List V) : Act := ⟨setArgs args 0 .e, H0⟩
section
variable (l : List Nat) (a b c d : Int)
noncomputable def args6 : List V := [.s l, .ag [.i .u8 a, .i .u8 b, .i .u8 c, .i .u8 d]]
noncomputable def act1 : Act := actOf (codeR Tryz.prog callN (seqL b6) (act0 (args6 l a b c d)))
def gtOf (l : List Nat) : Bool := intLt 2000 (Int.ofNat (lenN l 0))
noncomputable def act2 : Act := ⟨(((act1 l a b c d).t.set (Nat.succ 16) 16 (some (.s l))).set (Nat.succ 17) 17 (some (.i .i64 (Int.ofNat (lenN l 0))))).set (Nat.succ 18) 18 (some (.b (gtOf l))), (act1 l a b c d).h⟩
theorem shape6 : b6 = .seq (seqL b6) (.seq (.seq (seqL (seqL (seqR b6))) (.cond (.tmp 18) (condX (seqR (seqL (seqR b6)))) .skip)) (seqR (seqR b6))) := by kernel_rfl
noncomputable def x6 (n : Nat) : String × Array Edge := metaAt (some (seqL (seqL (seqR b6)))) n
theorem shape6' : seqL (seqL (seqR b6)) = .region 1 #[mkO (some 16) (.move (.tmp 0)) 9 (x6 0), mkO (some 17) (.call { callee := .builtin .len, args := #[.tmp 16], argTypes := #[9] }) 3 (x6 1), mkO (some 18) (.binOp .gtr 3 (.tmp 17) (.const (.int .i64 2000)) 3) 4 (x6 2)] false := by kernel_rfl
theorem step0 : codeR Tryz.prog callN (seqL b6) (act0 (args6 l a b c d)) = .ok (.n, act1 l a b c d) := by kernel_rfl
theorem slot0 : (act1 l a b c d).t.get 0 = some (.s l) := by kernel_rfl
theorem cls_len {P : Program} {args : Array Operand} (h : tKd P 9 = .str) : cls (.call { callee := .builtin .len, args := args, argTypes := #[9] }) P = 0 := by
  simp [cls, calleeCls, builtinCls, h]
theorem step_pure {P : Program} {call : CallD} {all : List Oper} {t : T V} {h : H} {o : Oper} {dd : Nat} {v : V} (hg : o.guard = none) (hc : cls o.op P = 0) (hd : o.dst = some dd) (hp : pureOp o.op P (evalO t) = .ok v) : step1 P call all ⟨t, h⟩ o = .ok ⟨t.set (Nat.succ dd) dd (some v), h⟩ := by
  simp only [step1, wantedR, hg, R.bind, cond_true, exec1, hc, execC, hp, seqV_eq, seqT_eq, Act.put, hd]
theorem pure_len {P : Program} {t : T V} {i ts : Nat} {l : List Nat} (hk : tKd P ts = .str) (hg : t.get i = some (.s l)) : pureOp (.call { callee := .builtin .len, args := #[.tmp i], argTypes := #[ts] }) P (evalO t) = .ok (.i .i64 (Int.ofNat (lenN l 0))) := by
  have he : evalO t (.tmp i) = .ok (.s l) := by simp only [evalO, hg, ofOpt]
  simp only [pureOp, mapR, he, R.bind, ty0, nth, ofOpt, show Nat.beq 0 0 = true from rfl, cond_true, hk, lenP]
theorem evalO_tmp' {t : T V} {i : Nat} {v : V} (h : t.get i = some v) : evalO t (.tmp i) = .ok v := by simp only [evalO, h, ofOpt]
theorem kd9 : tKd Tryz.prog 9 = .str := by kernel_rfl
theorem step1' : codeR Tryz.prog callN (seqL (seqL (seqR b6))) (act1 l a b c d) = .ok (.n, act2 l a b c d) := by
  rw [shape6']
  have h0 := slot0 l a b c d
  unfold act2
  generalize act1 l a b c d = A at h0 ⊢
  obtain ⟨t, h⟩ := A
  simp only at h0 ⊢
  obtain ⟨t1, ht1⟩ : ∃ t1, t1 = T.set (Nat.succ 16) t 16 (some (V.s l)) := ⟨_, rfl⟩
  have e16 : t1.get 16 = some (.s l) := by rw [ht1]; exact T.get_set_same _ _ _ _ (Nat.lt_succ_self _)
  obtain ⟨t2, ht2⟩ : ∃ t2, t2 = T.set (Nat.succ 17) t1 17 (some (V.i .i64 (Int.ofNat (lenN l 0)))) := ⟨_, rfl⟩
  have e17 : t2.get 17 = some (V.i .i64 (Int.ofNat (lenN l 0))) := by rw [ht2]; exact T.get_set_same _ _ _ _ (Nat.lt_succ_self _)
  rw [← ht1, ← ht2]
  simp only [codeR, regionR, opsR]
  rw [step_pure (o := mkO (some 16) (.move (.tmp 0)) 9 (x6 0)) (dd := 16) (v := .s l) rfl rfl rfl (by simp only [mkO, pureOp, evalO_tmp' h0])]
  simp only [R.bind]
  rw [← ht1, step_pure (o := mkO (some 17) (.call { callee := .builtin .len, args := #[.tmp 16], argTypes := #[9] }) 3 (x6 1)) (dd := 17) (v := .i .i64 (Int.ofNat (lenN l 0))) rfl (cls_len kd9) rfl (pure_len kd9 e16)]
  simp only
  rw [← ht2, step_pure (o := mkO (some 18) (.binOp .gtr 3 (.tmp 17) (.const (.int .i64 2000)) 3) 4 (x6 2)) (dd := 18) (v := .b (gtOf l)) rfl rfl rfl (by simp only [mkO, pureOp, evalO_tmp' e17, R.bind, binop]; rfl)]
theorem cond6 : evalO (act2 l a b c d).t (.tmp 18) = .ok (.b (gtOf l)) := by
  unfold act2
  simp only [evalO]
  rw [T.get_set_same _ _ _ _ (by omega)]
  rfl
theorem long6 : trueIn 6 (codeR Tryz.prog callN (condX (seqR (seqL (seqR b6)))) (act2 l a b c d)) = true := by kernel_rfl
theorem long6r : (match codeR Tryz.prog callN (condX (seqR (seqL (seqR b6)))) (act2 l a b c d) with | .ok r => (match r.1 with | .ret => true | _ => false) | _ => false) = true := by kernel_rfl
theorem rest6 : trueIn 6 (codeR Tryz.prog callN (seqR (seqR b6)) (act2 l a b c d)) = true := by kernel_rfl
theorem none6 : ∃ h', callR Tryz.prog (sumOf L4) 21 6 (args6 l a b c d) H0 = .ok (.b true, h') := by
  have hcall := call_body (P := Tryz.prog) (S := sumOf L4) (n := 20) (f := 6) (args := args6 l a b c d) (h := H0) (c := b6) (by kernel_rfl) (by kernel_rfl) (by kernel_rfl)
  have key : trueIn 6 (codeR Tryz.prog callN b6 (act0 (args6 l a b c d))) = true := by
    rw [shape6]
    simp only [codeR]
    rw [step0]
    simp only [thenX, R.bind]
    rw [step1']
    simp only
    rw [cond6]
    simp only [condR]
    cases hc : gtOf l with
    | true =>
      simp only [cond_true]
      have h1 := long6 l a b c d
      have h2 := long6r l a b c d
      revert h1 h2
      cases codeR Tryz.prog callN (condX (seqR (seqL (seqR b6)))) (act2 l a b c d) with
      | err e => intro _ h; cases h
      | ok r =>
        obtain ⟨x, A⟩ := r
        cases x with
        | ret => intro h1 _; exact h1
        | n => intro _ h; cases h
        | ex j => intro _ h; cases h
    | false =>
      simp only [cond_false]
      exact rest6 l a b c d
  have fin : ∀ r : R (X × Act), trueIn 6 r = true → ∃ h', r.bind (leave Tryz.prog 6) = .ok (.b true, h') := by
    intro r h
    unfold trueIn at h
    cases hr : r.bind (leave Tryz.prog 6) with
    | err e => rw [hr] at h; cases h
    | ok x =>
      rw [hr] at h
      obtain ⟨v, h'⟩ := x
      cases v <;> simp only at h <;> try cases h
      exact ⟨h', rfl⟩
  obtain ⟨h', hh⟩ := fin _ key
  exact ⟨h', by rw [hcall]; exact hh⟩
end
end Go.Dm
