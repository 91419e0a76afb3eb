/- The deterministic machine: what it runs on, and how. No proof stands here. -/
import GoSem.Dispatch
namespace Go.Dm

/-- sixteen of a kind -/
structure N16 (α : Type) where
  (a0 a1 a2 a3 a4 a5 a6 a7 a8 a9 a10 a11 a12 a13 a14 a15 : α)
inductive D16 where
  | d0 | d1 | d2 | d3 | d4 | d5 | d6 | d7 | d8 | d9 | d10 | d11 | d12 | d13 | d14 | d15
/-- a digit -/
def dg (n : Nat) : D16 := (bif Nat.ble n 7 then (bif Nat.ble n 3 then (bif Nat.ble n 1 then (bif Nat.ble n 0 then .d0 else .d1) else (bif Nat.ble n 2 then .d2 else .d3)) else (bif Nat.ble n 5 then (bif Nat.ble n 4 then .d4 else .d5) else (bif Nat.ble n 6 then .d6 else .d7))) else (bif Nat.ble n 11 then (bif Nat.ble n 9 then (bif Nat.ble n 8 then .d8 else .d9) else (bif Nat.ble n 10 then .d10 else .d11)) else (bif Nat.ble n 13 then (bif Nat.ble n 12 then .d12 else .d13) else (bif Nat.ble n 14 then .d14 else .d15))))
def N16.sel {α : Type} (d : D16) : N16 α → α := match d with
  | .d0 => fun s => s.a0
  | .d1 => fun s => s.a1
  | .d2 => fun s => s.a2
  | .d3 => fun s => s.a3
  | .d4 => fun s => s.a4
  | .d5 => fun s => s.a5
  | .d6 => fun s => s.a6
  | .d7 => fun s => s.a7
  | .d8 => fun s => s.a8
  | .d9 => fun s => s.a9
  | .d10 => fun s => s.a10
  | .d11 => fun s => s.a11
  | .d12 => fun s => s.a12
  | .d13 => fun s => s.a13
  | .d14 => fun s => s.a14
  | .d15 => fun s => s.a15
def N16.upd {α : Type} (d : D16) : N16 α → α → N16 α := match d with
  | .d0 => fun s x => ⟨x, s.a1, s.a2, s.a3, s.a4, s.a5, s.a6, s.a7, s.a8, s.a9, s.a10, s.a11, s.a12, s.a13, s.a14, s.a15⟩
  | .d1 => fun s x => ⟨s.a0, x, s.a2, s.a3, s.a4, s.a5, s.a6, s.a7, s.a8, s.a9, s.a10, s.a11, s.a12, s.a13, s.a14, s.a15⟩
  | .d2 => fun s x => ⟨s.a0, s.a1, x, s.a3, s.a4, s.a5, s.a6, s.a7, s.a8, s.a9, s.a10, s.a11, s.a12, s.a13, s.a14, s.a15⟩
  | .d3 => fun s x => ⟨s.a0, s.a1, s.a2, x, s.a4, s.a5, s.a6, s.a7, s.a8, s.a9, s.a10, s.a11, s.a12, s.a13, s.a14, s.a15⟩
  | .d4 => fun s x => ⟨s.a0, s.a1, s.a2, s.a3, x, s.a5, s.a6, s.a7, s.a8, s.a9, s.a10, s.a11, s.a12, s.a13, s.a14, s.a15⟩
  | .d5 => fun s x => ⟨s.a0, s.a1, s.a2, s.a3, s.a4, x, s.a6, s.a7, s.a8, s.a9, s.a10, s.a11, s.a12, s.a13, s.a14, s.a15⟩
  | .d6 => fun s x => ⟨s.a0, s.a1, s.a2, s.a3, s.a4, s.a5, x, s.a7, s.a8, s.a9, s.a10, s.a11, s.a12, s.a13, s.a14, s.a15⟩
  | .d7 => fun s x => ⟨s.a0, s.a1, s.a2, s.a3, s.a4, s.a5, s.a6, x, s.a8, s.a9, s.a10, s.a11, s.a12, s.a13, s.a14, s.a15⟩
  | .d8 => fun s x => ⟨s.a0, s.a1, s.a2, s.a3, s.a4, s.a5, s.a6, s.a7, x, s.a9, s.a10, s.a11, s.a12, s.a13, s.a14, s.a15⟩
  | .d9 => fun s x => ⟨s.a0, s.a1, s.a2, s.a3, s.a4, s.a5, s.a6, s.a7, s.a8, x, s.a10, s.a11, s.a12, s.a13, s.a14, s.a15⟩
  | .d10 => fun s x => ⟨s.a0, s.a1, s.a2, s.a3, s.a4, s.a5, s.a6, s.a7, s.a8, s.a9, x, s.a11, s.a12, s.a13, s.a14, s.a15⟩
  | .d11 => fun s x => ⟨s.a0, s.a1, s.a2, s.a3, s.a4, s.a5, s.a6, s.a7, s.a8, s.a9, s.a10, x, s.a12, s.a13, s.a14, s.a15⟩
  | .d12 => fun s x => ⟨s.a0, s.a1, s.a2, s.a3, s.a4, s.a5, s.a6, s.a7, s.a8, s.a9, s.a10, s.a11, x, s.a13, s.a14, s.a15⟩
  | .d13 => fun s x => ⟨s.a0, s.a1, s.a2, s.a3, s.a4, s.a5, s.a6, s.a7, s.a8, s.a9, s.a10, s.a11, s.a12, x, s.a14, s.a15⟩
  | .d14 => fun s x => ⟨s.a0, s.a1, s.a2, s.a3, s.a4, s.a5, s.a6, s.a7, s.a8, s.a9, s.a10, s.a11, s.a12, s.a13, x, s.a15⟩
  | .d15 => fun s x => ⟨s.a0, s.a1, s.a2, s.a3, s.a4, s.a5, s.a6, s.a7, s.a8, s.a9, s.a10, s.a11, s.a12, s.a13, s.a14, x⟩
def N16.rep {α : Type} (x : α) : N16 α := ⟨x, x, x, x, x, x, x, x, x, x, x, x, x, x, x, x⟩
/-- a sparse row by numbers, of whatever size -/
inductive BT (α : Type) where
  | e
  | n (l : BT α) (v : Option α) (r : BT α)
def BT.get {α : Type} : BT α → Nat → Option α
  | .e, _ => none
  | .n l v r, i => bif Nat.beq i 0 then v else bif Nat.beq (Nat.mod i 2) 1 then l.get (Nat.div i 2) else r.get (Nat.div (Nat.pred i) 2)
def BT.set {α : Type} : Nat → BT α → Nat → Option α → BT α
  | 0, t, _, _ => t
  | f+1, .e, i, x => bif Nat.beq i 0 then .n .e x .e else bif Nat.beq (Nat.mod i 2) 1 then .n (BT.set f .e (Nat.div i 2) x) none .e else .n .e none (BT.set f .e (Nat.div (Nat.pred i) 2) x)
  | f+1, .n l v r, i, x => bif Nat.beq i 0 then .n l x r else bif Nat.beq (Nat.mod i 2) 1 then .n (BT.set f l (Nat.div i 2) x) v r else .n l v (BT.set f r (Nat.div (Nat.pred i) 2) x)
/-- a sparse row by numbers: two digits, four, or whatever -/
structure T (α : Type) where
  lo : N16 (N16 (Option α))
  hi : N16 (N16 (N16 (N16 (Option α))))
  big : BT α
def T.e {α : Type} : T α := ⟨N16.rep (N16.rep none), N16.rep (N16.rep (N16.rep (N16.rep none))), .e⟩
def T.get2 {α : Type} (t : N16 (N16 (Option α))) (i : Nat) : Option α := (t.sel (dg (Nat.div i 16))).sel (dg (Nat.mod i 16))
def T.set2 {α : Type} (t : N16 (N16 (Option α))) (i : Nat) (x : Option α) : N16 (N16 (Option α)) := t.upd (dg (Nat.div i 16)) ((t.sel (dg (Nat.div i 16))).upd (dg (Nat.mod i 16)) x)
def T.get4 {α : Type} (t : N16 (N16 (N16 (N16 (Option α))))) (i : Nat) : Option α := T.get2 ((t.sel (dg (Nat.div i 4096))).sel (dg (Nat.mod (Nat.div i 256) 16))) (Nat.mod i 256)
def T.set4 {α : Type} (t : N16 (N16 (N16 (N16 (Option α))))) (i : Nat) (x : Option α) : N16 (N16 (N16 (N16 (Option α)))) :=
  t.upd (dg (Nat.div i 4096)) ((t.sel (dg (Nat.div i 4096))).upd (dg (Nat.mod (Nat.div i 256) 16)) (T.set2 ((t.sel (dg (Nat.div i 4096))).sel (dg (Nat.mod (Nat.div i 256) 16))) (Nat.mod i 256) x))
def T.get {α : Type} (t : T α) (i : Nat) : Option α := bif Nat.ble i 255 then T.get2 t.lo i else bif Nat.ble i 65535 then T.get4 t.hi i else t.big.get i
def T.set {α : Type} (f : Nat) (t : T α) (i : Nat) (x : Option α) : T α := bif Nat.ble i 255 then ⟨T.set2 t.lo i x, t.hi, t.big⟩ else bif Nat.ble i 65535 then ⟨t.lo, T.set4 t.hi i x, t.big⟩ else ⟨t.lo, t.hi, BT.set f t.big i x⟩

/-- a sum of so many times a number that is not known: its number, the times -/
structure Lin where
  c : Int
  ts : List (Nat × Int)
/-- a piece of a text: bytes; a byte that is not known; a text that is not known -/
inductive Seg where
  | c (l : List Nat)
  | y (e : Lin)
  | v (id : Nat)
/-- a slice's capacity: known; or at least so much, in elements of so many cells -/
inductive Cap where
  | ex (n : Nat)
  | lo (n es : Nat)

inductive V where
  | b (x : Bool)
  | i (k : IntKind) (n : Int)
  | x (k : IntKind) (e : Lin)
  | s (l : List Nat)
  | r (l : List Seg)
  | p0
  | p (b off : Nat)
  | sl0
  | sl (b off len : Nat) (cap : Cap)
  | m0
  | m (r : Nat)
  | fn (f : Nat) (first cap : List V)
  | nf
  | ni
  | ag (cs : List V)
  | tu (cs : List V)
  deriving Inhabited

inductive Blk where
  | cells (c : List V)
  | mp (es : List (V × V))

inductive R (α : Type) where
  | ok (a : α)
  | err (c : Nat)
def R.bind {α β : Type} (x : R α) (f : α → R β) : R β := match x with
  | .ok a => f a
  | .err c => .err c
def ofOpt {α : Type} (c : Nat) : Option α → R α
  | some a => .ok a
  | none => .err c

structure H where
  bl : T Blk
  nx : Nat

-- PLAIN LISTS
def mapR {α β : Type} (f : α → R β) : List α → R (List β)
  | [] => .ok []
  | a :: l => (f a).bind fun b => (mapR f l).bind fun bs => .ok (b :: bs)
def nth {α : Type} : List α → Nat → Option α
  | [], _ => none
  | a :: l, n => bif Nat.beq n 0 then some a else nth l (Nat.pred n)
def takeR {α : Type} : List α → Nat → R (List α)
  | _, 0 => .ok []
  | [], _+1 => .err 10
  | a :: l, n+1 => (takeR l n).bind fun r => .ok (a :: r)
def dropN {α : Type} : List α → Nat → List α
  | l, 0 => l
  | [], _+1 => []
  | _ :: l, n+1 => dropN l n
/-- places n, n+1, .. are overwritten -/
def putR {α : Type} : List α → Nat → List α → R (List α)
  | l, 0, [] => .ok l
  | _ :: l, 0, x :: xs => (putR l 0 xs).bind fun r => .ok (x :: r)
  | [], 0, _ :: _ => .err 11
  | a :: l, n+1, xs => (putR l n xs).bind fun r => .ok (a :: r)
  | [], _+1, _ => .err 12
def lenN {α : Type} : List α → Nat → Nat
  | [], n => n
  | _ :: l, n => lenN l (Nat.succ n)
def app {α : Type} : List α → List α → List α
  | [], r => r
  | a :: l, r => a :: app l r
def repN {α : Type} (a : List α) : Nat → List α
  | 0 => []
  | n+1 => app a (repN a n)
def beqL : List Nat → List Nat → Bool
  | [], [] => true
  | a :: x, b :: y => bif Nat.beq a b then beqL x y else false
  | _, _ => false
def ltL : List Nat → List Nat → Bool
  | _, [] => false
  | [], _ :: _ => true
  | a :: x, b :: y => bif Nat.blt a b then true else bif Nat.beq a b then ltL x y else false

-- CONSTANTS
def cellOf : Value → R V
  | .bool x => .ok (.b x)
  | .int k n => .ok (.i k n)
  | .string s => .ok (.s (s.data.toList.map (·.toNat)))
  | .pointer none => .ok .p0
  | .slice none 0 0 => .ok .sl0
  | .map none => .ok .m0
  | .func (.func f) first cap => bif Nat.beq first.size 0 && Nat.beq cap.size 0 then .ok (.fn f [] []) else .err 20
  | .nilFunc => .ok .nf
  | .nilIface => .ok .ni
  | _ => .err 21
def ofValue (v : Value) : R V := match v with
  | .agg cs => (mapR cellOf cs.toList).bind fun l => .ok (.ag l)
  | .tuple cs => (mapR cellOf cs.toList).bind fun l => .ok (.tu l)
  | v => cellOf v
def evalO (a : T V) (o : Operand) : R V := match o with
  | .tmp t => ofOpt 22 (a.get t)
  | .const v => ofValue v
  | .func f => .ok (.fn f [] [])
  | .global _ => .err 23
def cellsOfV (v : V) : List V := match v with
  | .ag l => l
  | v => [v]
/-- can it lie in cells? -/
def okCells (v : V) : Bool := match v with
  | .tu _ => false
  | _ => true

-- TYPES (closed terms: the kernel looks each up once)
/-- of a struct or an array: how many cells -/
def tAgg (P : Program) (t : Nat) : Option Nat := match P.underlying t, P.info? t with
  | some (.struct _), some i => some i.size
  | some (.array _ _), some i => some i.size
  | _, _ => none
/-- how a type is read: so many cells, or one -/
def tLoad (P : Program) (t : Nat) : R (Option Nat) := match P.underlying t with
  | some _ => .ok (tAgg P t)
  | none => .err 29
/-- one cell? (its zero value is one) -/
def tZero (P : Program) (t : Nat) : R V := match P.info? t with
  | some { zero := some v, .. } => ofValue v
  | _ => .err 30
def tSize (P : Program) (t : Nat) : R Nat := match P.info? t with
  | some i => .ok i.size
  | none => .err 31
def tBytes (P : Program) (t : Nat) : R Nat := match P.info? t with
  | some i => .ok i.bytes
  | none => .err 32
def tField (P : Program) (t f : Nat) : R (Nat × Nat) := match P.underlying t with
  | some (.struct fs) => match fs[f]? with
    | some f => .ok (f.offset, f.type)
    | none => .err 33
  | _ => .err 34
def tFieldOff (P : Program) (t f : Nat) : R Nat := (tField P t f).bind fun x => (tSize P x.2).bind fun n => bif Nat.beq n 0 then .err 35 else .ok x.1
/-- a slice's element's type -/
def tSlice (P : Program) (t : Nat) : R Nat := match P.underlying t with
  | some (.slice e) => .ok e
  | _ => .err 36
def tSliceSize (P : Program) (t : Nat) : R Nat := (tSlice P t).bind fun e => tSize P e
/-- an array's length, and its elements' type -/
def tArray (P : Program) (t : Nat) : R (Nat × Nat) := match P.underlying t with
  | some (.array n e) => .ok (n, e)
  | _ => .err 37
def tArraySize (P : Program) (t : Nat) : R (Nat × Nat) := (tArray P t).bind fun x => (tSize P x.2).bind fun s => .ok (x.1, s)
def tPtrArraySize (P : Program) (t : Nat) : R (Nat × Nat) := match P.underlying t with
  | some (.pointer e) => tArraySize P e
  | _ => .err 38
def tMap (P : Program) (t : Nat) : R (Nat × Nat) := match P.underlying t with
  | some (.map k e) => .ok (k, e)
  | _ => .err 39
inductive Kd where
  | str | sl (e : Nat) | int (k : IntKind) | o
def tKd (P : Program) (t : Nat) : Kd := match P.underlying t with
  | some .string => .str
  | some (.slice e) => .sl e
  | some (.int k) => .int k
  | _ => .o

-- NUMBERS
def intBeq (x y : Int) : Bool := match x, y with
  | .ofNat a, .ofNat b => Nat.beq a b
  | .negSucc a, .negSucc b => Nat.beq a b
  | _, _ => false
def intLt (x y : Int) : Bool := match x, y with
  | .ofNat a, .ofNat b => Nat.blt a b
  | .negSucc a, .negSucc b => Nat.blt b a
  | .negSucc _, .ofNat _ => true
  | .ofNat _, .negSucc _ => false
def wrapI (k : IntKind) (n : Int) : Int := IntKind.wrap k n
def small (n : Int) : Bool := match n with
  | .ofNat a => Nat.blt a 9223372036854775808
  | .negSucc a => Nat.blt a 9223372036854775808
def wrap (k : IntKind) (n : Int) : Int := match k with
  | .i64 => bif small n then n else wrapI .i64 n
  | k => wrapI k n
def natOf (n : Int) : R Nat := match n with
  | .ofNat a => .ok a
  | .negSucc _ => .err 40
def toNatR (v : V) : R Nat := match v with
  | .i _ n => natOf n
  | _ => .err 41
def kindNo (k : IntKind) : Nat := match k with
  | .i8 => 0 | .i16 => 1 | .i32 => 2 | .i64 => 3 | .u8 => 4 | .u16 => 5 | .u32 => 6 | .u64 => 7
def kindBeq (j k : IntKind) : Bool := Nat.beq (kindNo j) (kindNo k)
def andN (x y : Int) : Option Nat := match x, y with
  | .ofNat a, .ofNat b => some (Nat.land a b)
  | _, _ => none
def orN (x y : Int) : Option Nat := match x, y with
  | .ofNat a, .ofNat b => some (Nat.lor a b)
  | _, _ => none
def xorN (x y : Int) : Option Nat := match x, y with
  | .ofNat a, .ofNat b => some (Nat.xor a b)
  | _, _ => none
def bitsV (k : IntKind) (n : Option Nat) (r : BitVec k.bits) : R V := match n with
  | some n => .ok (.i k (wrap k (Int.ofNat n)))
  | none => .ok (.i k (k.wrap r.toNat))
def addV (x y : V) : R V := match x with
  | .i k a => (match y with | .i j b => bif kindBeq k j then .ok (.i k (wrap k (Int.add a b))) else .err 50 | _ => .err 51)
  | .s a => (match y with | .s b => bif Nat.ble (lenN a (lenN b 0)) 1000000000 then .ok (.s (app a b)) else .err 49 | _ => .err 52)
  | _ => .err 53
def int2 (f : IntKind → Int → Int → R V) (x y : V) : R V := match x with
  | .i k a => (match y with | .i j b => bif kindBeq k j then f k a b else .err 54 | _ => .err 55)
  | _ => .err 56
def shift2 (f : IntKind → Int → Nat → R V) (x y : V) : R V := match x with
  | .i k a => (match y with | .i _ b => (natOf b).bind fun n => f k a n | _ => .err 57)
  | _ => .err 58
def cmpV (f : Int → Int → Bool) (g : List Nat → List Nat → Bool) (x y : V) : R V := match x with
  | .i k a => (match y with | .i j b => bif kindBeq k j then .ok (.b (f a b)) else .err 59 | _ => .err 60)
  | .s a => (match y with | .s b => .ok (.b (g a b)) | _ => .err 61)
  | _ => .err 62
-- EQUALITY
def eqAtom (x y : V) : R Bool := match x with
  | .b a => (match y with | .b c => .ok (bif a then c else !c) | _ => .err 63)
  | .i k a => (match y with | .i j c => bif kindBeq k j then .ok (intBeq a c) else .err 64 | _ => .err 65)
  | .s a => (match y with | .s c => .ok (beqL a c) | _ => .err 66)
  | .p0 => (match y with | .p0 => .ok true | .p _ _ => .ok false | _ => .err 67)
  | .p a o => (match y with | .p0 => .ok false | .p c q => bif Nat.beq a c then .ok (Nat.beq o q) else .err 68 | _ => .err 69)
  | .sl0 => (match y with | .sl0 => .ok true | .sl _ _ _ _ => .ok false | _ => .err 70)
  | .sl _ _ _ _ => (match y with | .sl0 => .ok false | _ => .err 71)
  | .m0 => (match y with | .m0 => .ok true | .m _ => .ok false | _ => .err 72)
  | .m _ => (match y with | .m0 => .ok false | _ => .err 73)
  | .nf => (match y with | .nf => .ok true | .fn _ _ _ => .ok false | _ => .err 74)
  | .fn _ _ _ => (match y with | .nf => .ok false | _ => .err 75)
  | _ => .err 76
/-- what a type's equality asks: cells from a place on, each an atom of that kind; 'none': not told -/
inductive Ka where
  | b | i | s | p | sl | m | f
def tKa (P : Program) (t : Nat) : Option Ka := match P.underlying t with
  | some .bool => some .b
  | some (.int _) => some .i
  | some .string => some .s
  | some (.pointer e) => (match P.info? e with | some i => bif Nat.beq i.size 0 then none else some .p | none => none)
  | some (.slice _) => some .sl
  | some (.map _ _) => some .m
  | some (.func _ _ _) => some .f
  | _ => none
def kaOk (k : Ka) (v : V) : Bool := match k with
  | .b => (match v with | .b _ => true | _ => false)
  | .i => (match v with | .i _ _ => true | _ => false)
  | .s => (match v with | .s _ => true | _ => false)
  | .p => (match v with | .p0 => true | .p _ _ => true | _ => false)
  | .sl => (match v with | .sl0 => true | .sl _ _ _ _ => true | _ => false)
  | .m => (match v with | .m0 => true | .m _ => true | _ => false)
  | .f => (match v with | .nf => true | .fn _ _ _ => true | _ => false)
/-- what equality of a struct or an array looks at, in its order: types, places, sizes -/
def tParts (P : Program) (t : Nat) : R (List (Nat × Nat × Nat)) := match P.underlying t with
  | some (.struct fs) => bif P.stoodInHeld t then .err 78 else mapR (fun (f : Field) => bif f.name == "_" then .err 77 else (tSize P f.type).bind fun s => .ok (f.type, f.offset, s)) fs.toList
  | some (.array n e) => (tSize P e).bind fun s => .ok ((List.range n).map fun i => (e, i * s, s))
  | _ => .err 79
def eqParts (rec : Nat → List V → List V → R Bool) (xs ys : List V) : List (Nat × Nat × Nat) → R Bool
  | [] => .ok true
  | p :: l => (takeR (dropN xs p.2.1) p.2.2).bind fun a => (takeR (dropN ys p.2.1) p.2.2).bind fun b => (rec p.1 a b).bind fun r => bif r then eqParts rec xs ys l else .ok false
def eqOne (k : Ka) (xs ys : List V) : R Bool := match xs with
  | [x] => (match ys with
    | [y] => bif kaOk k x && kaOk k y then eqAtom x y else .err 80
    | _ => .err 81)
  | _ => .err 82
def eqT (P : Program) : Nat → Nat → List V → List V → R Bool
  | 0 => fun _ _ _ => .err 83
  | d+1 => fun t xs ys => match tKa P t with
    | some k => eqOne k xs ys
    | none => (tParts P t).bind (eqParts (eqT P d) xs ys)
/-- (of a type with interfaces within nothing is told) -/
def tCalm (P : Program) (t : Nat) : Bool := !P.eqGuardType P.depth t
def eqV (P : Program) (t : Nat) (x y : V) : R Bool := match tAgg P t with
  | none => (match tKa P t with
    | some k => bif kaOk k x && kaOk k y then eqAtom x y else .err 84
    | none => .err 85)
  | some _ => (match x with
    | .ag xs => (match y with | .ag ys => bif tCalm P t then eqT P 12 t xs ys else .err 86 | _ => .err 87)
    | _ => .err 88)
def notV (r : R Bool) : R V := r.bind fun b => .ok (.b (!b))
def okV (r : R Bool) : R V := r.bind fun b => .ok (.b b)
def binop (op : BinOp) : Program → Nat → V → V → R V := match op with
  | .add => fun _ _ => addV
  | .sub => fun _ _ => int2 fun k a b => .ok (.i k (wrap k (Int.sub a b)))
  | .mul => fun _ _ => int2 fun k a b => .ok (.i k (wrap k (Int.mul a b)))
  | .quo => fun _ _ => int2 fun k a b => bif intBeq b 0 then .err 90 else .ok (.i k (wrap k (Int.tdiv a b)))
  | .rem => fun _ _ => int2 fun k a b => bif intBeq b 0 then .err 91 else .ok (.i k (Int.tmod a b))
  | .and => fun _ _ => int2 fun k a b => bitsV k (andN a b) (BitVec.ofInt k.bits a &&& BitVec.ofInt k.bits b)
  | .or => fun _ _ => int2 fun k a b => bitsV k (orN a b) (BitVec.ofInt k.bits a ||| BitVec.ofInt k.bits b)
  | .xor => fun _ _ => int2 fun k a b => bitsV k (xorN a b) (BitVec.ofInt k.bits a ^^^ BitVec.ofInt k.bits b)
  | .andNot => fun _ _ => int2 fun k a b => bitsV k none (BitVec.ofInt k.bits a &&& ~~~ BitVec.ofInt k.bits b)
  | .shl => fun _ _ => shift2 fun k a n => .ok (.i k (wrap k (Int.mul a (Int.ofNat (2 ^ (min n k.bits))))))
  | .shr => fun _ _ => shift2 fun k a n => .ok (.i k (Int.fdiv a (Int.ofNat (2 ^ (min n k.bits)))))
  | .eql => fun P t x y => okV (eqV P t x y)
  | .neq => fun P t x y => notV (eqV P t x y)
  | .lss => fun _ _ => cmpV intLt ltL
  | .gtr => fun _ _ => cmpV (fun a b => intLt b a) (fun a b => ltL b a)
  | .leq => fun _ _ => cmpV (fun a b => !intLt b a) (fun a b => !ltL b a)
  | .geq => fun _ _ => cmpV (fun a b => !intLt a b) (fun a b => !ltL a b)
def unop (op : UnOp) (v : V) : R V := match op with
  | .not => (match v with | .b x => .ok (.b (!x)) | _ => .err 95)
  | .neg => (match v with | .i k n => .ok (.i k (wrap k (Int.sub 0 n))) | _ => .err 96)
  | .xor => (match v with | .i k n => bitsV k none (BitVec.ofInt k.bits (if k.signed then -1 else k.max) ^^^ BitVec.ofInt k.bits n) | _ => .err 97)
  | .plus => .err 98

-- MEMORY
def H.new (h : H) (b : Blk) : H := ⟨h.bl.set (Nat.succ h.nx) h.nx (some b), Nat.succ h.nx⟩
def cellsIn (b : Option Blk) : R (List V) := match b with
  | some (.cells c) => .ok c
  | _ => .err 100
def H.cells (h : H) (b : Nat) : R (List V) := cellsIn (h.bl.get b)
def H.put (h : H) (b : Nat) (x : Option Blk) : H := ⟨h.bl.set (Nat.succ b) b x, h.nx⟩
def mapIn (b : Option Blk) : R (List (V × V)) := match b with
  | some (.mp c) => .ok c
  | _ => .err 101
def H.map (h : H) (b : Nat) : R (List (V × V)) := mapIn (h.bl.get b)
def loadC (n : Option Nat) (off : Nat) (c : List V) : R V := match n with
  | some n => (takeR (dropN c off) n).bind fun l => .ok (.ag l)
  | none => ofOpt 102 (nth c off)
def loadV (P : Program) (t : Nat) (h : H) (v : V) : R V := match v with
  | .p b off => (h.cells b).bind fun c => (tLoad P t).bind fun n => loadC n off c
  | _ => .err 103
def storeV (P : Program) (t : Nat) (h : H) (v x : V) : R H := match v with
  | .p b off => (h.cells b).bind fun c => (tSize P t).bind fun n => bif okCells x && Nat.beq (lenN (cellsOfV x) 0) n then (putR c off (cellsOfV x)).bind fun c => .ok (h.put b (some (.cells c))) else .err 104
  | _ => .err 105
/-- parts laid into a row -/
def fillR (place : Nat → R (Nat × Nat)) (cells : List V) : List (Nat × V) → R (List V)
  | [] => .ok cells
  | (i, v) :: rest => (place i).bind fun x => bif okCells v && Nat.beq (lenN (cellsOfV v) 0) x.2 then (putR cells x.1 (cellsOfV v)).bind fun c => fillR place c rest else .err 106
def partsR (ev : Operand → R V) : List (Nat × Operand) → R (List (Nat × V))
  | [] => .ok []
  | (i, x) :: l => (ev x).bind fun v => (partsR ev l).bind fun r => .ok ((i, v) :: r)
/-- where a struct's or an array's parts lie, and how long they are -/
def tPlaces (P : Program) (t : Nat) : R (List (Nat × Nat)) := match P.underlying t with
  | some (.struct fs) => mapR (fun (f : Field) => (tSize P f.type).bind fun s => .ok (f.offset, s)) fs.toList
  | some (.array n e) => (tSize P e).bind fun s => .ok ((List.range n).map fun i => (i * s, s))
  | _ => .err 107
def placeIn (l : List (Nat × Nat)) (i : Nat) : R (Nat × Nat) := ofOpt 99 (nth l i)
def buildV (P : Program) (t : Nat) (ps : List (Nat × V)) : R V := (tZero P t).bind fun z => (tPlaces P t).bind fun l => bif okCells z then (fillR (placeIn l) (cellsOfV z) ps).bind fun c => .ok (.ag c) else .err 94
def byteV (n : Nat) : V := .i .u8 (Int.ofNat n)
def bytesR : List V → R (List Nat)
  | [] => .ok []
  | v :: l => match v with
    | .i k n => bif kindBeq k .u8 then (natOf n).bind fun n => bif Nat.blt n 256 then (bytesR l).bind fun r => .ok (n :: r) else .err 108 else .err 109
    | _ => .err 110
def lenV (v : V) : R Nat := match v with
  | .sl0 => .ok 0
  | .sl _ _ n _ => .ok n
  | .s l => .ok (lenN l 0)
  | _ => .err 111
/-- the first n elements' cells of a slice or of a text -/
def firstR (h : H) (es n : Nat) (v : V) : R (List V) := bif Nat.beq n 0 then .ok [] else match v with
  | .sl b off _ _ => (h.cells b).bind fun c => takeR (dropN c off) (n * es)
  | .s l => bif Nat.beq es 1 then (takeR l n).bind fun l => .ok (l.map byteV) else .err 111
  | _ => .err 112
def capGe (c : Cap) (n : Nat) : Bool := match c with
  | .ex k => Nat.ble n k
  | .lo k _ => Nat.ble n k
def capLt (c : Cap) (n : Nat) : Bool := match c with
  | .ex k => Nat.blt k n
  | .lo _ _ => false
def capEs (c : Cap) (es : Nat) : Bool := match c with
  | .ex _ => true
  | .lo _ e => Nat.beq e es
def room (need bytes : Nat) : Bool := Nat.ble (Nat.mul (Nat.add (Nat.mul 2 need) 2048) bytes) 281474976710656 && Nat.blt need 1099511627776
/-- append of n elements, these cells -/
def appendR (h : H) (es bytes : Nat) (s : V) (n : Nat) (new : List V) : R (V × H) := match s with
  | .sl0 => bif Nat.beq n 0 then .ok (.sl0, h) else bif room n bytes then .ok (.sl h.nx 0 n (.lo n es), h.new (.cells new)) else .err 113
  | .sl b off len cap =>
    let need := Nat.add len n
    bif capGe cap need then (h.cells b).bind fun c => (putR c (Nat.add off (Nat.mul len es)) new).bind fun c => .ok (.sl b off need cap, h.put b (some (.cells c)))
    else bif room need bytes then
      bif capLt cap need then (firstR h es len s).bind fun old => .ok (.sl h.nx 0 need (.lo need es), h.new (.cells (app old new)))
      else bif capEs cap es then (h.cells b).bind fun c => (takeR (dropN c off) (Nat.mul len es)).bind fun old => .ok (.sl h.nx 0 need (.lo need es), (h.put b none).new (.cells (app old new)))
      else .err 114
    else .err 115
  | _ => .err 116

-- MAPS: entries by their keys, in any order
/-- keys that are told apart here -/
def keyAtomic (P : Program) (kt : Nat) : Bool := match tKa P kt with
  | some k => (match k with | .b => true | .i => true | .s => true | _ => false)
  | none => false
def keyKd (P : Program) (kt : Nat) : Bool := match tAgg P kt with
  | some _ => true
  | none => keyAtomic P kt
def kaOf (P : Program) (kt : Nat) (k : V) : Bool := match tAgg P kt with
  | some _ => (match eqV P kt k k with | .ok r => r | .err _ => false)
  | none => (match tKa P kt with
    | some a => kaOk a k
    | none => false)
def pickKey (r : Bool) (v : V) (q : Option V) : R (Option V) := match r with
  | false => .ok q
  | true => (match q with | none => .ok (some v) | some _ => .err 92)
def findKey (P : Program) (kt : Nat) (k : V) : List (V × V) → R (Option V)
  | [] => .ok none
  | e :: l => (eqV P kt k e.1).bind fun r => (findKey P kt k l).bind fun q => pickKey r e.2 q
def replKey (P : Program) (kt : Nat) (k v : V) : List (V × V) → R (List (V × V))
  | [] => .ok []
  | e :: l => (eqV P kt k e.1).bind fun r => (replKey P kt k v l).bind fun l => .ok ((bif r then (k, v) else e) :: l)
def setKey (P : Program) (kt : Nat) (k v : V) (es : List (V × V)) : R (List (V × V)) := (findKey P kt k es).bind fun q => match q with
  | none => .ok (app es [(k, v)])
  | some _ => bif keyAtomic P kt then replKey P kt k v es else .err 94
def delKey (P : Program) (kt : Nat) (k : V) : List (V × V) → R (List (V × V))
  | [] => .ok []
  | e :: l => (eqV P kt k e.1).bind fun r => (delKey P kt k l).bind fun l => .ok (bif r then l else e :: l)

-- SLICING
def boundsR (len cap : Nat) (lo hi : Option V) : R (Nat × Nat) :=
  (match hi with | some v => toNatR v | none => R.ok len).bind fun h =>
  (match lo with | some v => toNatR v | none => R.ok 0).bind fun l =>
  bif Nat.ble h cap && Nat.ble l h then .ok (l, h) else .err 120
def optR (ev : Operand → R V) (x : Option Operand) : R (Option V) := match x with
  | none => .ok none
  | some a => (ev a).bind fun b => .ok (some b)
def capOf (c : Cap) : Nat := match c with
  | .ex n => n
  | .lo n _ => n
def capSub (c : Cap) (l : Nat) : Cap := match c with
  | .ex n => .ex (Nat.sub n l)
  | .lo n e => .lo (Nat.sub n l) e
def sliceArr (b off : Nat) (lo hi mx : Option V) (x : Nat × Nat) : R V := match mx with
  | none => (boundsR x.1 x.1 lo hi).bind fun r => .ok (.sl b (Nat.add off (Nat.mul r.1 x.2)) (Nat.sub r.2 r.1) (.ex (Nat.sub x.1 r.1)))
  | some _ => .err 121
def sliceS (l : List Nat) (lo hi mx : Option V) : R V := match mx with
  | none => (boundsR (lenN l 0) (lenN l 0) lo hi).bind fun r => (takeR (dropN l r.1) (Nat.sub r.2 r.1)).bind fun l => .ok (.s l)
  | some _ => .err 122
def sliceN (lo hi mx : Option V) : R V := match mx with
  | none => (boundsR 0 0 lo hi).bind fun _ => .ok .sl0
  | some _ => .err 123
def sliceL (b off len : Nat) (cap : Cap) (es : Nat) (lo hi mx : Option V) : R V := match mx with
  | none => (boundsR len (capOf cap) lo hi).bind fun r => .ok (.sl b (Nat.add off (Nat.mul r.1 es)) (Nat.sub r.2 r.1) (capSub cap r.1))
  | some m => (toNatR m).bind fun m => bif Nat.ble m (capOf cap) && hi.isSome then (boundsR len m lo hi).bind fun r => .ok (.sl b (Nat.add off (Nat.mul r.1 es)) (Nat.sub r.2 r.1) (.ex (Nat.sub m r.1))) else .err 124
def isStr (k : Kd) : Bool := match k with
  | .str => true
  | _ => false
def isU8 (k : Kd) : Bool := match k with
  | .int k => kindBeq k .u8
  | _ => false
def arrOf (P : Program) (t : Nat) : R (Nat × Nat) := match P.underlying t with
  | some (.array _ _) => tArraySize P t
  | some (.pointer _) => tPtrArraySize P t
  | _ => .err 127
def sliceV (P : Program) (t : Nat) (x : V) (lo hi mx : Option V) : R V := match x with
  | .s l => bif isStr (tKd P t) then sliceS l lo hi mx else .err 129
  | .sl0 => (tSliceSize P t).bind fun _ => sliceN lo hi mx
  | .sl b off len cap => (tSliceSize P t).bind fun es => bif capEs cap es then sliceL b off len cap es lo hi mx else .err 125
  | .p b off => (arrOf P t).bind (sliceArr b off lo hi mx)
  | _ => .err 126
def indexAddrV (P : Program) (t : Nat) (x i : V) : R V := (toNatR i).bind fun i => match x with
  | .p b off => (tArraySize P t).bind fun y => bif Nat.blt i y.1 then .ok (.p b (Nat.add off (Nat.mul i y.2))) else .err 130
  | .sl b off n _ => (tSliceSize P t).bind fun s => bif Nat.blt i n then .ok (.p b (Nat.add off (Nat.mul i s))) else .err 131
  | _ => .err 132
def indexV (P : Program) (t : Nat) (x i : V) : R V := (toNatR i).bind fun i => match x with
  | .s l => bif isStr (tKd P t) then (match nth l i with | some c => .ok (byteV c) | none => .err 133) else .err 128
  | .ag cs => (tArray P t).bind fun y => (tSize P y.2).bind fun s => bif Nat.blt i y.1 then (tLoad P y.2).bind fun n => loadC n (Nat.mul i s) cs else .err 134
  | _ => .err 135
def fieldV (P : Program) (t : Nat) (x : V) (f : Nat) : R V := match x with
  | .ag cs => (tField P t f).bind fun y => (tLoad P y.2).bind fun n => loadC n y.1 cs
  | _ => .err 136
def fieldAddrV (P : Program) (t : Nat) (x : V) (f : Nat) : R V := match x with
  | .p b off => (tFieldOff P t f).bind fun n => .ok (.p b (Nat.add off n))
  | _ => .err 137
def nilCheckV (v : V) : R V := match v with
  | .p b o => .ok (.p b o)
  | .fn f a c => .ok (.fn f a c)
  | _ => .err 138
def extractV (i : Nat) (v : V) : R V := match v with
  | .tu l => ofOpt 139 (nth l i)
  | _ => .err 140
def ty0 (c : Call) : R Nat := ofOpt 98 (nth c.argTypes.toList 0)
def lenP (k : Kd) (v : V) : R V := match k with
  | .str => (match v with | .s l => .ok (.i .i64 (Int.ofNat (lenN l 0))) | _ => .err 207)
  | .sl _ => (match v with | .sl0 => .ok (.i .i64 0) | .sl _ _ n _ => .ok (.i .i64 (Int.ofNat n)) | _ => .err 208)
  | _ => .err 209
def convP (k : Kd) (v : V) : R V := match k with
  | .int k => (match v with | .i _ n => .ok (.i k (wrap k n)) | _ => .err 141)
  | .str => (match v with | .s l => .ok (.s l) | _ => .err 142)
  | _ => .err 143
def toArr (P : Program) (t : Nat) (v : V) : R V := match v with
  | .sl b off len _ => (tArray P t).bind fun y => bif Nat.ble y.1 len && Nat.blt 0 y.1 then .ok (.p b off) else .err 144
  | _ => .err 145
def maxI (a b : Int) : Int := bif intLt a b then b else a
def minI (a b : Int) : Int := bif intLt b a then b else a
def foldI (f : Int → Int → Int) (k : IntKind) (a : Int) : List V → R V
  | [] => .ok (.i k a)
  | v :: l => match v with
    | .i j b => bif kindBeq k j then foldI f k (f a b) l else .err 146
    | _ => .err 147
def foldV (f : Int → Int → Int) : List V → R V
  | [] => .err 148
  | v :: l => match v with
    | .i k a => foldI f k a l
    | _ => .err 149

def capV (v : V) : R Nat := match v with
  | .sl0 => .ok 0
  | .sl _ _ _ c => (match c with | .ex n => .ok n | .lo _ _ => .err 243)
  | _ => .err 244

-- OPERATIONS BY THEIR KINDS
/-- 0: looks at no memory; 1: looks; 2: makes one block; 3: all else -/
def builtinCls (P : Program) (b : Builtin) (ts : List Nat) : Nat := match b with
  | .len => (match tKd P (ts.headD 0) with | .str => 0 | .sl _ => 0 | _ => 1)
  | .cap => 0
  | .max => 0
  | .min => 0
  | _ => 3
def convCls (P : Program) (s d : Nat) : Nat := match tKd P s with
  | .sl _ => 1
  | .str => (match tKd P d with | .sl _ => 2 | _ => 0)
  | _ => 0
def calleeCls (P : Program) (c : Call) : Nat := match c.callee with
  | .builtin b => builtinCls P b c.argTypes.toList
  | _ => 3
def cls (o : Op) : Program → Nat := match o with
  | .load _ _ => fun _ => 1
  | .lookup _ _ _ _ => fun _ => 1
  | .alloc _ => fun _ => 2
  | .box _ _ => fun _ => 2
  | .buildSlice _ _ _ => fun _ => 2
  | .makeMap _ _ => fun _ => 2
  | .makeSlice _ _ _ => fun _ => 2
  | .convert s d _ => fun P => convCls P s d
  | .call c => fun P => calleeCls P c
  | .store _ _ _ => fun _ => 3
  | .mapUpdate _ _ _ _ => fun _ => 3
  | .insert _ _ _ _ => fun _ => 4
  | _ => fun _ => 0
def pureOp (o : Op) : Program → (Operand → R V) → R V := match o with
  | .move x => fun _ ev => ev x
  | .assign x => fun _ ev => ev x
  | .pick c x y => fun _ ev => (ev c).bind fun c => (match c with | .b b => bif b then ev x else ev y | _ => .err 200)
  | .build t ps => fun P ev => (partsR ev ps.toList).bind (buildV P t)
  | .nilCheck x => fun _ ev => (ev x).bind nilCheckV
  | .binOp op t x y _ => fun P ev => (ev x).bind fun x => (ev y).bind (binop op P t x)
  | .unOp op _ x => fun _ ev => (ev x).bind (unop op)
  | .convert s d x => fun P ev => (tLoad P s).bind fun _ => (ev x).bind (convP (tKd P d))
  | .sliceToArrayPointer t x => fun P ev => (ev x).bind (toArr P t)
  | .makeFunc fn fs cs => fun _ ev => (match fn with | .func f => (mapR ev fs.toList).bind fun fs => (mapR ev cs.toList).bind fun cs => .ok (.fn f fs cs) | _ => .err 201)
  | .slice t x lo hi mx => fun P ev => (ev x).bind fun x => (optR ev lo).bind fun lo => (optR ev hi).bind fun hi => (optR ev mx).bind fun mx => sliceV P t x lo hi mx
  | .fieldAddr t x f => fun P ev => (ev x).bind fun x => fieldAddrV P t x f
  | .field t x f => fun P ev => (ev x).bind fun x => fieldV P t x f
  | .indexAddr t x i => fun P ev => (ev x).bind fun x => (ev i).bind (indexAddrV P t x)
  | .index t x i => fun P ev => (ev x).bind fun x => (ev i).bind (indexV P t x)
  | .extract t i => fun _ ev => (ev t).bind (extractV i)
  | .call c => fun P ev => (match c.callee with
    | .builtin b => (mapR ev c.args.toList).bind fun args => (match b with
      | .len => (match args with | [x] => (ty0 c).bind fun t => lenP (tKd P t) x | _ => .err 202)
      | .cap => (match args with | [x] => (ty0 c).bind fun t => (tSlice P t).bind fun _ => (capV x).bind fun n => .ok (.i .i64 (Int.ofNat n)) | _ => .err 206)
      | .max => foldV maxI args
      | .min => foldV minI args
      | _ => .err 203)
    | _ => .err 204)
  | _ => fun _ _ => .err 205
def lenMap (P : Program) (t : Nat) (h : H) (x : V) : R V := match x with
  | .m0 => (tMap P t).bind fun _ => .ok (.i .i64 0)
  | .m r => (tMap P t).bind fun _ => (h.map r).bind fun es => .ok (.i .i64 (Int.ofNat (lenN es 0)))
  | .ag _ => (tArray P t).bind fun y => .ok (.i .i64 (Int.ofNat y.1))
  | .p _ _ => (tPtrArraySize P t).bind fun y => .ok (.i .i64 (Int.ofNat y.1))
  | _ => .err 210
def lookMap (P : Program) (kt : Nat) (h : H) (x k : V) : R (Option V) := match x with
  | .m0 => bif kaOf P kt k then .ok none else .err 218
  | .m r => bif kaOf P kt k then (h.map r).bind (findKey P kt k) else .err 219
  | _ => .err 211
def lookEnd (P : Program) (e : Nat) (ok : Bool) (r : Option V) : R V := match r with
  | some v => .ok (bif ok then .tu [v, .b true] else v)
  | none => (tZero P e).bind fun z => .ok (bif ok then .tu [z, .b false] else z)
def toStr (h : H) (v : V) : R V := match v with
  | .sl0 => .ok (.s [])
  | .sl b off n _ => bif Nat.beq n 0 then .ok (.s []) else (h.cells b).bind fun c => (takeR (dropN c off) n).bind fun l => (bytesR l).bind fun l => .ok (.s l)
  | _ => .err 212
def readOp (o : Op) : Program → (Operand → R V) → H → R V := match o with
  | .load t x => fun P ev h => (ev x).bind (loadV P t h)
  | .lookup t x k ok => fun P ev h => (ev x).bind fun x => (ev k).bind fun k => (tMap P t).bind fun y => bif keyKd P y.1 then (lookMap P y.1 h x k).bind (lookEnd P y.2 ok) else .err 93
  | .convert s d x => fun P ev h => (tSlice P s).bind fun e => bif isU8 (tKd P e) && isStr (tKd P d) then (ev x).bind (toStr h) else .err 213
  | .call c => fun P ev h => (match c.callee with
    | .builtin b => (match b with
      | .len => (mapR ev c.args.toList).bind fun args => (match args with | [x] => (ty0 c).bind fun t => lenMap P t h x | _ => .err 214)
      | _ => .err 215)
    | _ => .err 216)
  | _ => fun _ _ _ => .err 217
def toBytes (nx : Nat) (v : V) : R (V × Blk) := match v with
  | .s l => bif Nat.blt (lenN l 0) 1000000000 then .ok (.sl nx 0 (lenN l 0) (.lo (lenN l 0) 1), .cells (l.map byteV)) else .err 222
  | _ => .err 223
/-- what is handed back, where the new block has this number; and the block -/
def allocOp (o : Op) : Program → (Operand → R V) → Nat → R (V × Blk) := match o with
  | .alloc t => fun P _ nx => (tZero P t).bind fun z => bif okCells z then .ok (.p nx 0, .cells (cellsOfV z)) else .err 218
  | .box _ x => fun _ ev nx => (ev x).bind fun v => bif okCells v then .ok (.p nx 0, .cells (cellsOfV v)) else .err 219
  | .buildSlice t n ps => fun P ev nx => (tSlice P t).bind fun e => (tZero P e).bind fun z => (tSize P e).bind fun s => bif okCells z && Nat.beq (lenN (cellsOfV z) 0) s && Nat.blt 0 s && Nat.ble (Nat.mul n s) 16777216 then
      (partsR ev ps.toList).bind fun ps => (fillR (fun i => .ok (i * s, s)) (repN (cellsOfV z) n) ps).bind fun c => .ok (.sl nx 0 n (.ex n), .cells c) else .err 220
  | .makeMap _ r => fun _ _ nx => (match r with | none => .ok (.m nx, .mp []) | some _ => .err 221)
  | .makeSlice t l c => fun P ev nx => (ev l).bind fun l => (ev c).bind fun c => (toNatR l).bind fun l => (toNatR c).bind fun c => (tSlice P t).bind fun e => (tZero P e).bind fun z => (tSize P e).bind fun s => (tBytes P e).bind fun by_ =>
      bif Nat.ble l c && room c by_ && Nat.blt c 1073741824 && okCells z && Nat.beq (lenN (cellsOfV z) 0) s && Nat.blt 0 s then .ok (.sl nx 0 l (.ex c), .cells (repN (cellsOfV z) c)) else .err 222
  | .convert s d x => fun P ev nx => bif isStr (tKd P s) then (tSlice P d).bind fun e => bif isU8 (tKd P e) then (ev x).bind (toBytes nx) else .err 224 else .err 225
  | _ => fun _ _ _ => .err 227
abbrev CallD := Nat → List V → H → R (V × H)
def undefV : V := .tu []
def mapPut (P : Program) (t : Nat) (h : H) (m k v : V) : R (V × H) := match m with
  | .m r => (tMap P t).bind fun y => bif keyKd P y.1 && kaOf P y.1 k then (h.map r).bind fun es => (setKey P y.1 k v es).bind fun es => .ok (undefV, h.put r (some (.mp es))) else .err 89
  | _ => .err 230
def mapDel (P : Program) (t : Nat) (h : H) (m k : V) : R (V × H) := match m with
  | .m0 => .ok (undefV, h)
  | .m r => (tMap P t).bind fun y => bif keyKd P y.1 then (h.map r).bind fun es => (delKey P y.1 k es).bind fun es => .ok (undefV, h.put r (some (.mp es))) else .err 88
  | _ => .err 231
/-- of a slice's elements: how many cells, how many bytes, their zero value's cells -/
structure Es where
  e : Nat
  es : Nat
  by_ : Nat
  z : V
def tElem (P : Program) (t : Nat) : R Es := (tSlice P t).bind fun e => (tSize P e).bind fun es => (tBytes P e).bind fun by_ => (tZero P e).bind fun z => bif okCells z && Nat.beq (lenN (cellsOfV z) 0) es && Nat.blt 0 es then .ok ⟨e, es, by_, z⟩ else .err 232
def appendK (h : H) (k : Kd) (E : Es) (s x : V) : R (V × H) := match k with
  | .int _ => (toNatR x).bind fun n => bif room n E.by_ then appendR h E.es E.by_ s n (repN (cellsOfV E.z) n) else .err 233
  | .o => .err 246
  | _ => (lenV x).bind fun n => (firstR h E.es n x).bind fun new => appendR h E.es E.by_ s n new
def appendV (P : Program) (ts : List Nat) (h : H) (s x : V) : R (V × H) := (ofOpt 247 (nth ts 0)).bind fun t => (ofOpt 248 (nth ts 1)).bind fun t' => (tElem P t).bind fun E => appendK h (tKd P t') E s x
def copyV (P : Program) (ts : List Nat) (h : H) (d x : V) : R (V × H) := (ofOpt 249 (nth ts 0)).bind fun t => (tSlice P t).bind fun e => (tSize P e).bind fun es => match d with
  | .sl0 => (lenV x).bind fun _ => .ok (.i .i64 0, h)
  | .sl b off len _ => (lenV x).bind fun m => (firstR h es (min m len) x).bind fun new => bif Nat.beq (min m len) 0 then .ok (.i .i64 0, h) else (h.cells b).bind fun c => (putR c off new).bind fun c => .ok (.i .i64 (Int.ofNat (min m len)), h.put b (some (.cells c)))
  | _ => .err 234
def clearV (P : Program) (ts : List Nat) (h : H) (d : V) : R (V × H) := match d with
  | .sl0 => .ok (undefV, h)
  | .sl b off len _ => bif Nat.beq len 0 then .ok (undefV, h) else (tSlice P (ts.headD 0)).bind fun e => (tZero P e).bind fun z => bif !okCells z then .err 245 else (h.cells b).bind fun c => (putR c off (repN (cellsOfV z) len)).bind fun c => .ok (undefV, h.put b (some (.cells c)))
  | _ => .err 235
def two (f : V → V → R (V × H)) (args : List V) : R (V × H) := match args with
  | [a, b] => f a b
  | _ => .err 236
def one (f : V → R (V × H)) (args : List V) : R (V × H) := match args with
  | [a] => f a
  | _ => .err 237
def builtinE (b : Builtin) : Program → List Nat → H → List V → R (V × H) := match b with
  | .append => fun P ts h => two (appendV P ts h)
  | .copy => fun P ts h => two (copyV P ts h)
  | _ => fun _ _ _ _ => .err 238
def callV (call : CallD) (h : H) (args : List V) (f : V) : R (V × H) := match f with
  | .fn k first cap => call k (app (app first args) cap) h
  | _ => .err 239
def effOp (o : Op) : Program → CallD → (Operand → R V) → H → R (V × H) := match o with
  | .store t x v => fun P _ ev h => (ev x).bind fun x => (ev v).bind fun v => (storeV P t h x v).bind fun h => .ok (undefV, h)
  | .mapUpdate t m k v => fun P _ ev h => (ev m).bind fun m => (ev k).bind fun k => (ev v).bind (mapPut P t h m k)
  | .insert t m k v => fun P _ ev h => (ev m).bind fun m => (ev k).bind fun k => (ev v).bind (mapPut P t h m k)
  | .call c => fun P call ev h => (mapR ev c.args.toList).bind fun args => (match c.callee with
    | .value f => (ev f).bind (callV call h args)
    | .builtin b => builtinE b P c.argTypes.toList h args
    | .invoke _ _ => .err 240)
  | _ => fun _ _ _ _ => .err 241
def seqInt {β : Type} (n : Int) (b : β) : β := match n with
  | .ofNat a => bif Nat.beq a a then b else b
  | .negSucc a => bif Nat.beq a a then b else b
def seqV {β : Type} (v : V) (b : β) : β := match v with
  | .i _ n => seqInt n b
  | .p _ o => bif Nat.beq o o then b else b
  | .sl _ o n _ => bif Nat.beq o n then b else b
  | _ => b
def seqT {α β : Type} (t : T α) (b : β) : β := match t with
  | ⟨_, _, _⟩ => b
structure Act where
  t : T V
  h : H
def Act.put (a : Act) (d : Option Nat) (v : V) : Act := match d with
  | some d => ⟨a.t.set (Nat.succ d) d (some v), a.h⟩
  | none => a
def isTrue (v : Option V) (w : Bool) : R Bool := match v with
  | some v => (match v with | .b x => .ok (bif x then w else !w) | .tu _ => .ok false | _ => .err 252)
  | none => .err 253
/-- is the operation at o wanted? -/
def wantedR (ops : List Oper) (t : T V) (o : Oper) : R Bool := match o.guard with
  | none => .ok true
  | some g => (match nth ops g.1 with
    | some p => (match p.dst with | some d => isTrue (t.get d) g.2 | none => .err 250)
    | none => .err 251)
def withH (a : Act) (r : R (V × H)) : R (V × Act) := r.bind fun x => seqT x.2.bl (.ok (x.1, ⟨a.t, x.2⟩))
def execC (c : Nat) : Program → CallD → Act → Op → R (V × Act) := match c with
  | 0 => fun P _ a o => (pureOp o P (evalO a.t)).bind fun v => .ok (v, a)
  | 1 => fun P _ a o => (readOp o P (evalO a.t) a.h).bind fun v => .ok (v, a)
  | 2 => fun P _ a o => (allocOp o P (evalO a.t) a.h.nx).bind fun x => seqT (a.h.new x.2).bl (.ok (x.1, ⟨a.t, a.h.new x.2⟩))
  | _ => fun P call a o => withH a (effOp o P call (evalO a.t) a.h)
def exec1 (P : Program) (call : CallD) (a : Act) (o : Oper) : R Act := (execC (cls o.op P) P call a o.op).bind fun x => seqV x.1 (seqT (x.2.put o.dst x.1).t (.ok (x.2.put o.dst x.1)))
def step1 (P : Program) (call : CallD) (all : List Oper) (a : Act) (o : Oper) : R Act := (wantedR all a.t o).bind fun w => bif w then exec1 P call a o else .ok (a.put o.dst undefV)
def opsR (P : Program) (call : CallD) (all : List Oper) : List Oper → Act → R Act
  | [], a => .ok a
  | o :: l, a => (step1 P call all a o).bind (opsR P call all l)
end Go.Dm
namespace Go.Dm

-- A REGION WHOSE ORDER IS OPEN: WHAT CAN BE SAID OF IT AHEAD
/-- whom each operation comes behind, whatever the order -/
def ancs : List Oper → List Nat → List Nat
  | [], acc => acc
  | o :: l, acc => ancs l (app acc [o.after.toList.foldl (fun s e => bif Region.binds .any e then Nat.lor s (Nat.lor (Nat.pow 2 e.on) ((nth acc e.on).getD 0)) else s) 0])
def opTmps (o : Oper) : List Nat := o.op.operands.toList.filterMap (fun | .tmp t => some t | _ => none)
def has (l : List Nat) (n : Nat) : Bool := match l with
  | [] => false
  | a :: l => bif Nat.beq a n then true else has l n
/-- the places of the operations that act, in their order -/
def acts (P : Program) : List Oper → Nat → List Nat
  | [], _ => []
  | o :: l, i => bif Nat.beq (cls o.op P) 3 then i :: acts P l (Nat.succ i) else acts P l (Nat.succ i)
def countIn (m : Nat) : List Nat → Nat → Nat
  | [], n => n
  | e :: l, n => countIn m l (bif Nat.testBit m e then Nat.succ n else n)
/-- those of mask m (of n operations) that are not done: in their order, with so many looks back -/
def pick (P : Program) (ops : List Oper) (ms es : List Nat) (m done j : Nat) : Nat → Nat → List (Nat × Nat)
  | 0, _ => []
  | f+1, i => bif Nat.testBit m i && !Nat.testBit done i then (i, (match nth ops i with
      | some o => bif Nat.beq (cls o.op P) 1 then Nat.sub j (countIn ((nth ms i).getD 0) es 0) else 0
      | none => 0)) :: pick P ops ms es m done j f (Nat.succ i) else pick P ops ms es m done j f (Nat.succ i)
def order (P : Program) (ops : List Oper) (ms es : List Nat) (n : Nat) : List Nat → Nat → Nat → List (Nat × Nat)
  | [], done, j => pick P ops ms es (Nat.sub (Nat.pow 2 n) 1) done j n 0
  | e :: l, done, j => app (pick P ops ms es (Nat.lor ((nth ms e).getD 0) (Nat.pow 2 e)) done j n 0) (order P ops ms es n l (Nat.lor done (Nat.lor ((nth ms e).getD 0) (Nat.pow 2 e))) (Nat.succ j))
-- .. AND IS IT SO?
def maskOf (all : List Nat) (o : Oper) : Nat := o.after.toList.foldl (fun s e => bif Region.binds .any e then Nat.lor s (Nat.lor (Nat.pow 2 e.on) ((nth all e.on).getD 0)) else s) 0
def ancOk (all : List Nat) : List Oper → List Nat → Bool
  | [], [] => true
  | o :: l, m :: ms => bif Nat.beq m (maskOf all o) then ancOk all l ms else false
  | _, _ => false
def guardTmp (ops : List Oper) (o : Oper) : List Nat := match o.guard with
  | none => []
  | some g => (match nth ops g.1 with
    | some p => (match p.dst with | some d => [d] | none => [])
    | none => [])
def dstIs (o : Oper) (f : Nat → Bool) : Bool := match o.dst with
  | some d => f d
  | none => true
/-- who writes what is read here comes first, or behind -/
def readOk (rs : List Nat) (m i : Nat) : List Oper → List Nat → Nat → Bool
  | [], _, _ => true
  | _, [], _ => false
  | p :: l, mk :: ms, k => bif dstIs p (fun d => bif has rs d then (bif Nat.testBit m k then true else Nat.testBit mk i) else true) then readOk rs m i l ms (Nat.succ k) else false
def readsOk (all : List Oper) (ams : List Nat) : List Oper → List Nat → Nat → Bool
  | [], _, _ => true
  | _, [], _ => false
  | o :: l, m :: ms, i => bif readOk (app (opTmps o) (guardTmp all o)) m i all ams 0 then readsOk all ams l ms (Nat.succ i) else false
def notDst (d : Nat) : List Oper → Bool
  | [] => true
  | o :: l => bif dstIs o (fun c => !Nat.beq c d) then notDst d l else false
/-- no slot is written twice -/
def dstsApart : List Oper → Bool
  | [] => true
  | o :: l => bif dstIs o (fun d => notDst d l) then dstsApart l else false
def edgesIn (done : List Nat) : List Edge → Bool
  | [] => true
  | e :: l => bif Region.binds .any e then (bif has done e.on then edgesIn done l else false) else edgesIn done l
def allIn (m : Nat) : List Nat → Bool
  | [] => true
  | e :: l => bif Nat.testBit m e then allIn m l else false
/-- whose block a map literal's entry goes into; the map's type -/
def mapTmp (o : Op) : Option (Nat × Nat) := match o with
  | .insert ty m _ _ => (match m with | .tmp t => some (ty, t) | _ => none)
  | _ => none
def isMake (ty : Nat) (o : Op) : Bool := match o with
  | .makeMap t _ => Nat.beq t ty
  | _ => false
/-- the place of the operation that makes the map in slot t -/
def makerIn (ty t : Nat) : List Oper → Nat → Option Nat
  | [], _ => none
  | o :: l, i => bif isMake ty o.op && (match o.dst with | some d => Nat.beq d t | none => false) then some i else makerIn ty t l (Nat.succ i)
def makerOk (ops : List Oper) (o : Op) (since : List Nat) : Bool := match mapTmp o with
  | none => false
  | some t => (match makerIn t.1 t.2 ops 0 with | some q => has since q | none => false)
/-- looks and acts know of every entry whether it comes before or behind -/
def tellOk (m i : Nat) : List Oper → List Nat → Nat → Program → Bool
  | [], _, _, _ => true
  | _, [], _, _ => false
  | p :: l, mk :: ms, k, P => bif Nat.beq (cls p.op P) 4 then (bif (bif Nat.testBit m k then true else Nat.testBit mk i) then tellOk m i l ms (Nat.succ k) P else false) else tellOk m i l ms (Nat.succ k) P
def tellsOk (all : List Oper) (ams : List Nat) (P : Program) : List Oper → List Nat → Nat → Bool
  | [], _, _ => true
  | _, [], _ => false
  | o :: l, m :: ms, i => bif (bif Nat.beq (cls o.op P) 1 then true else Nat.beq (cls o.op P) 3) then (bif tellOk m i all ams 0 P then tellsOk all ams P l ms (Nat.succ i) else false) else tellsOk all ams P l ms (Nat.succ i)
/-- one operation's place in the order -/
def placeOk (ops : List Oper) (o : Op) (c m back : Nat) (done acts since : List Nat) : Bool := match c with
  | 3 => allIn m done
  | 1 => allIn m (dropN acts back)
  | 4 => makerOk ops o since
  | _ => true
def allHas (done : List Nat) : Nat → Bool
  | 0 => true
  | n+1 => bif has done n then allHas done n else false
def walkOk (P : Program) (ops : List Oper) (ms : List Nat) : List (Nat × Nat) → List Nat → List Nat → List Nat → Bool
  | [], done, _, _ => allHas done (lenN ops 0)
  | x :: l, done, acts, since => match nth ops x.1 with
    | none => false
    | some o => bif has done x.1 then false else bif edgesIn done o.after.toList then
        (bif placeOk ops o.op (cls o.op P) ((nth ms x.1).getD 0) x.2 done acts since then walkOk P ops ms l (x.1 :: done) (bif Nat.beq (cls o.op P) 3 then x.1 :: acts else acts) (bif Nat.beq (cls o.op P) 3 then [] else x.1 :: since) else false) else false
def planOk (P : Program) (ops : List Oper) (ms : List Nat) (l : List (Nat × Nat)) : Bool := ancOk ms ops ms && readsOk ops ms ops ms 0 && dstsApart ops && tellsOk ops ms P ops ms 0 && walkOk P ops ms l [] [] []
def planIn (P : Program) (ops : List Oper) (ms : List Nat) (l : List (Nat × Nat)) : Option (List (Nat × Nat)) := bif planOk P ops ms l then some l else none
/-- the order in which the machine does such a region -/
def plan (P : Program) (ops : List Oper) : Option (List (Nat × Nat)) :=
  planIn P ops (ancs ops []) (order P ops (ancs ops []) (acts P ops 0) (lenN ops 0) (acts P ops 0) 0 0)

-- ONE AND THE SAME VALUE?
def sameCap (a b : Cap) : Bool := match a with
  | .ex n => (match b with | .ex m => Nat.beq n m | _ => false)
  | .lo n e => (match b with | .lo m f => Nat.beq n m && Nat.beq e f | _ => false)
def sameA (x y : V) : Bool := match x with
  | .b a => (match y with | .b c => bif a then c else !c | _ => false)
  | .i k a => (match y with | .i j c => kindBeq k j && intBeq a c | _ => false)
  | .s a => (match y with | .s c => beqL a c | _ => false)
  | .p0 => (match y with | .p0 => true | _ => false)
  | .p a o => (match y with | .p c q => Nat.beq a c && Nat.beq o q | _ => false)
  | .sl0 => (match y with | .sl0 => true | _ => false)
  | .sl a o n c => (match y with | .sl d q m e => Nat.beq a d && Nat.beq o q && Nat.beq n m && sameCap c e | _ => false)
  | .m0 => (match y with | .m0 => true | _ => false)
  | .m a => (match y with | .m c => Nat.beq a c | _ => false)
  | .nf => (match y with | .nf => true | _ => false)
  | .ni => (match y with | .ni => true | _ => false)
  | _ => false
def sameAs : List V → List V → Bool
  | [], [] => true
  | a :: x, b :: y => bif sameA a b then sameAs x y else false
  | _, _ => false
def sameG (x y : V) : Bool := match x with
  | .ag a => (match y with | .ag c => sameAs a c | _ => false)
  | x => sameA x y
def sameGs : List V → List V → Bool
  | [], [] => true
  | a :: x, b :: y => bif sameG a b then sameGs x y else false
  | _, _ => false
def sameV (x y : V) : Bool := match x with
  | .tu a => (match y with | .tu c => sameGs a c | _ => false)
  | x => sameG x y
/-- the operand at which a look looks -/
def eyeOf (o : Op) : Operand := match o with
  | .load _ x => x
  | .lookup _ x _ _ => x
  | .convert _ _ x => x
  | .call c => c.args.toList.headD (.tmp 0)
  | _ => .tmp 0
/-- the block that it looks at: is it one that this heap has? -/
def blkOf (v : V) : Nat := match v with
  | .p b _ => b
  | .sl b _ _ _ => b
  | .m r => r
  | _ => 0
/-- a look gives the same in each of the last n heaps that have what it looks at -/
def backOk (P : Program) (o : Op) (t : T V) (v : V) (b : Nat) : Nat → List H → R Unit
  | 0, _ => .ok ()
  | _+1, [] => .err 300
  | n+1, h :: l => bif Nat.ble h.nx b then backOk P o t v b n l else (readOp o P (evalO t) h).bind fun v' => bif sameV v v' then backOk P o t v b n l else .err 301
/-- is this key a new one, from both sides? -/
def newKey (P : Program) (kt : Nat) (k : V) : List (V × V) → R Unit
  | [] => .ok ()
  | e :: l => (eqV P kt k e.1).bind fun r => (eqV P kt e.1 k).bind fun q => bif r || q then .err 308 else newKey P kt k l
/-- one entry of a map literal -/
def insR (o : Op) : Program → (Operand → R V) → H → R H := match o with
  | .insert t m k v => fun P ev h => (ev m).bind fun m => (ev k).bind fun k => (ev v).bind fun v => (match m with
    | .m b => (tMap P t).bind fun y => bif keyKd P y.1 && kaOf P y.1 k then (h.map b).bind fun es => (newKey P y.1 k es).bind fun _ => .ok (h.put b (some (.mp (app es [(k, v)])))) else .err 309
    | _ => .err 317)
  | _ => fun _ _ _ => .err 318
def execB (c : Nat) : Program → CallD → Act → Op → Nat → List H → R (V × Act) := match c with
  | 1 => fun P _ a o b sn => (readOp o P (evalO a.t) a.h).bind fun v => bif Nat.beq b 0 then .ok (v, a) else (evalO a.t (eyeOf o)).bind fun x => (backOk P o a.t v (blkOf x) b sn).bind fun _ => .ok (v, a)
  | 4 => fun P _ a o _ _ => (insR o P (evalO a.t) a.h).bind fun h => seqT h.bl (.ok (undefV, ⟨a.t, h⟩))
  | c => fun P call a o _ _ => execC c P call a o
def pushH (c : Nat) (h : H) (sn : List H) : List H := bif Nat.beq c 3 then h :: sn else sn
def exec2 (P : Program) (call : CallD) (a : Act) (o : Oper) (b : Nat) (sn : List H) : R Act := (execB (cls o.op P) P call a o.op b sn).bind fun x => seqV x.1 (seqT (x.2.put o.dst x.1).t (.ok (x.2.put o.dst x.1)))
def step2 (P : Program) (call : CallD) (all : List Oper) (a : Act) (o : Oper) (b : Nat) (sn : List H) : R Act := (wantedR all a.t o).bind fun w => bif w then exec2 P call a o b sn else .ok (a.put o.dst undefV)
def drawR (P : Program) (call : CallD) (all : List Oper) : List (Nat × Nat) → Act → List H → R Act
  | [], a, _ => .ok a
  | x :: l, a, sn => match nth all x.1 with
    | some o => (step2 P call all a o x.2 sn).bind fun a' => bif Nat.ble a.h.nx a'.h.nx then drawR P call all l a' (pushH (cls o.op P) a.h sn) else .err 307
    | none => .err 302
def regionR (draw : Bool) : Program → CallD → List Oper → Act → R Act := match draw with
  | false => fun P call ops a => opsR P call ops ops a
  | true => fun P call ops a => match plan P ops with
    | some l => drawR P call ops l a []
    | none => .err 303

inductive X where
  | n | ret | ex (id : Nat)
def thenX (x : R (X × Act)) (f : Act → R (X × Act)) : R (X × Act) := x.bind fun r => match r.1 with
  | .n => f r.2
  | e => .ok (e, r.2)
def loopR (f : Act → R (X × Act)) : Nat → Act → R (X × Act)
  | 0, _ => .err 304
  | n+1, a => thenX (f a) (loopR f n)
def blockX (id : Nat) (x : R (X × Act)) : R (X × Act) := x.bind fun r => match r.1 with
  | .ex j => bif Nat.beq j id then .ok (.n, r.2) else .ok (.ex j, r.2)
  | e => .ok (e, r.2)
def condR (v : V) (x y : Act → R (X × Act)) (a : Act) : R (X × Act) := match v with
  | .b b => bif b then x a else y a
  | _ => .err 305
def rounds : Nat := 1000000
def codeR (P : Program) (call : CallD) : Code → Act → R (X × Act)
  | .skip => fun a => .ok (.n, a)
  | .label _ => fun a => .ok (.n, a)
  | .region _ ops draw => fun a => (regionR draw P call ops.toList a).bind fun a => .ok (.n, a)
  | .seq x y => fun a => thenX (codeR P call x a) (codeR P call y)
  | .cond c x y => fun a => (evalO a.t c).bind fun v => condR v (codeR P call x) (codeR P call y) a
  | .block id x => fun a => blockX id (codeR P call x a)
  | .loop x => fun a => loopR (codeR P call x) rounds a
  | .exit id => fun a => .ok (.ex id, a)
  | .ret => fun a => .ok (.ret, a)
  | _ => fun _ => .err 306

-- CALLS
def dstsOk (n : Nat) : List Oper → Bool
  | [] => true
  | o :: l => bif (match o.dst with | some d => Nat.blt d n && Nat.blt d 65000 | none => true) then dstsOk n l else false
/-- are all slots that a text writes the function's own? -/
def codeOk (n : Nat) : Code → Bool
  | .region _ ops _ => dstsOk n ops.toList
  | .seq x y => codeOk n x && codeOk n y
  | .cond _ x y => codeOk n x && codeOk n y
  | .block _ x => codeOk n x
  | .loop x => codeOk n x
  | .skip => true
  | .label _ => true
  | .exit _ => true
  | .ret => true
  | _ => false
def funcOk (P : Program) (f : Nat) : Bool := match P.funcs[f]? with
  | some fn => (match fn.body with | some c => codeOk fn.ntmps c && Nat.ble (fn.params.size + fn.nfree) fn.ntmps && !(fn.name == "runtime.NumGoroutine") | none => false)
  | none => false
def bodyOf (P : Program) (f : Nat) : R Code := match P.funcs[f]? with
  | some fn => ofOpt 310 fn.body
  | none => .err 311
def resultsOf (P : Program) (f : Nat) : List ResultVar := match P.funcs[f]? with
  | some fn => fn.results.toList
  | none => []
def nargsOf (P : Program) (f : Nat) : Nat := match P.funcs[f]? with
  | some fn => fn.params.size + fn.nfree
  | none => 0
def setArgs : List V → Nat → T V → T V
  | [], _, t => t
  | v :: l, n, t => setArgs l (Nat.succ n) (t.set (Nat.succ n) n (some v))
def resR (P : Program) (a : Act) (r : ResultVar) : R V := match r with
  | .tmp t => ofOpt 312 (a.t.get t)
  | .cell p t => (ofOpt 313 (a.t.get p)).bind (loadV P t a.h)
def tupleOf (l : List V) : V := match l with
  | [v] => v
  | l => .tu l
def leave (P : Program) (f : Nat) (r : X × Act) : R (V × H) := match r.1 with
  | .ex _ => .err 314
  | _ => (mapR (resR P r.2) (resultsOf P f)).bind fun l => .ok (tupleOf l, r.2.h)
abbrev Sums := Nat → Option (List V → H → R (V × H))
def callR (P : Program) (S : Sums) : Nat → CallD
  | 0 => fun _ _ _ => .err 315
  | n+1 => fun f args h => match S f with
    | some s => s args h
    | none => bif funcOk P f && Nat.beq (lenN args 0) (nargsOf P f) then (bodyOf P f).bind fun c => (codeR P (callR P S n) c ⟨setArgs args 0 .e, h⟩).bind (leave P f) else .err 316
def H0 : H := ⟨.e, 0⟩
def noSums : Sums := fun _ => none
def run (P : Program) (S : Sums) (f : Nat) (args : List V) : R V := (callR P S 60 f args H0).bind fun x => .ok x.1
end Go.Dm
