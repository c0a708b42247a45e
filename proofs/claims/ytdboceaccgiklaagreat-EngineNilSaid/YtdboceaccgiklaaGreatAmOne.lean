/-
  Defines an evaluator of the model's programs on abstract values; nothing is proved here, and there are no conditions.
-/
import GoSem.Dispatch
import GoSem.Machine.Return
import Derived.Orders
set_option linter.all false
namespace Go.AM

/-- values -/
inductive V where
  | bool (b : Bool)
  | int (k : IntKind) (n : Int)
  | str (s : ByteArray)
  | ptr0
  | ptr (i off : Nat)
  | sl0
  | slE
  | sl (i off len cap es : Nat)
  | map0
  | map (i : Nat)
  | fn (f : FuncId) (first cap : List V)
  | yld (l : Nat)
  | fn0
  | ifc (t : TypeId) (v : V)
  | ifc0
  | agg (l : List V)
  | tup (l : List V)
  deriving Inhabited

def V.undef : V := .tup []

/-- a tree of places -/
inductive Tr (α : Type) where
  | e
  | n (l : Tr α) (o : Option α) (r : Tr α)

def Tr.getN' {α : Type} (ih : Tr α → Nat → Option α) (l : Tr α) (o : Option α) (r : Tr α) (i : Nat) : Option α :=
  Bool.casesOn (Nat.beq i (nat_lit 0)) (Bool.casesOn (Nat.beq (Nat.mod i (nat_lit 2)) (nat_lit 1)) (ih r (Nat.pred (Nat.div i (nat_lit 2)))) (ih l (Nat.div i (nat_lit 2)))) o

def Tr.getF {α : Type} (f : Nat) : Tr α → Nat → Option α :=
  Nat.rec (motive := fun _ => Tr α → Nat → Option α) (fun _ _ => none)
    (fun _ ih t i => Tr.casesOn t none fun l o r => Tr.getN' ih l o r i) f

def Tr.get {α : Type} (t : Tr α) (i : Nat) : Option α := Tr.getF (nat_lit 40) t i

def Tr.inL {α : Type} (o : Option α) (r : Tr α) (l : Option (Tr α)) : Option (Tr α) := Option.casesOn l none (fun l => some (.n l o r))
def Tr.inR {α : Type} (l : Tr α) (o : Option α) (r : Option (Tr α)) : Option (Tr α) := Option.casesOn r none (fun r => some (.n l o r))

def Tr.setN {α : Type} (x : Option α) (ih : Tr α → Nat → Option (Tr α)) (l : Tr α) (o : Option α) (r : Tr α) (i : Nat) : Option (Tr α) :=
  Bool.casesOn (Nat.beq i (nat_lit 0)) (Bool.casesOn (Nat.beq (Nat.mod i (nat_lit 2)) (nat_lit 1)) (Tr.inR l o (ih r (Nat.pred (Nat.div i (nat_lit 2))))) (Tr.inL o r (ih l (Nat.div i (nat_lit 2))))) (some (.n l x r))

def Tr.setF {α : Type} (x : Option α) (f : Nat) : Tr α → Nat → Option (Tr α) :=
  Nat.rec (motive := fun _ => Tr α → Nat → Option (Tr α)) (fun _ _ => none)
    (fun _ ih t i => Tr.casesOn t (Tr.setN x ih .e none .e i) fun l o r => Tr.setN x ih l o r i) f

def Tr.set {α : Type} (t : Tr α) (i : Nat) (x : Option α) : Option (Tr α) := Tr.setF x (nat_lit 40) t i

/-- so many places, one behind the other -/
def Tr.getN {α : Type} (t : Tr α) (k : Nat) : Nat → Option (List α) :=
  Nat.rec (motive := fun _ => Nat → Option (List α)) (fun _ => some [])
    (fun _ ih off => match t.get off with
      | some v => match ih (Nat.succ off) with
        | some l => some (v :: l)
        | none => none
      | none => none) k

def Tr.putN {α : Type} : List α → Tr α → Nat → Option (Tr α)
  | [], t, _ => some t
  | v :: l, t, off => match t.set off (some v) with
    | some t' => Tr.putN l t' (Nat.succ off)
    | none => none

def Tr.ofL {α : Type} (l : List α) : Option (Tr α) := Tr.putN l .e 0

/-- a deferred call -/
inductive D where
  | call (f : FuncId) (args : List V)
  | mark (r : Nat)

structure Lp where
  state : LoopState
  pending : Option Code
  tmps : Tr V
  size : Nat
  params : List Tmp
  assign : Code
  body : Code
  defers : Nat

/-- objects -/
inductive O where
  | cells (t : Tr V) (n : Nat)
  | map (es : List (V × V × Nat)) (clock : Nat)
  | iter (m since : Nat) (seen : List Nat) (last : Nat)
  | loop (l : Lp)
  | marks (opened : Bool)

structure St where
  heap : Tr O
  next : Nat

def St.get (s : St) (i : Nat) : Option O := match s with
  | ⟨h, _⟩ => h.get i
def St.put (s : St) (i : Nat) (x : Option O) : Option St := match s with
  | ⟨h, n⟩ => match h.set i x with
    | some h => some ⟨h, n⟩
    | none => none
/-- a new object, and its number -/
def St.new (s : St) (o : O) : Option (Nat × St) := match s with
  | ⟨h, n⟩ => match Nat.succ n with
    | 0 => none
    | m + 1 => match h.set m (some o) with
      | some h => some (m, ⟨h, Nat.succ m⟩)
      | none => none

/-- activation -/
structure A where
  t : Tr V
  n : Nat
  defers : List D

def A.tm (a : A) (i : Nat) : V := match a with
  | ⟨t, _, _⟩ => match t.get i with
    | some v => v
    | none => V.undef

def setT (t : Tr V) (n : Nat) (i : Nat) (v : V) : Option (Tr V) := match Nat.ble (Nat.succ i) n with
  | true => t.set i (some v)
  | false => none

/-- a constant -/
def ofC : Value → Option V
  | .bool b => some (.bool b)
  | .int k n => some (.int k n)
  | .string s => some (.str s)
  | .pointer none => some .ptr0
  | .slice none 0 0 => some .sl0
  | .map none => some .map0
  | .nilFunc => some .fn0
  | .nilIface => some .ifc0
  | _ => none

def ofCs : List Value → Option (List V)
  | [] => some []
  | c :: cs => match ofC c with
    | some v => match ofCs cs with
      | some vs => some (v :: vs)
      | none => none
    | none => none

def ofV : Value → Option V
  | .agg cs => match ofCs cs.toList with
    | some l => some (.agg l)
    | none => none
  | .tuple cs => match ofCs cs.toList with
    | some l => some (.tup l)
    | none => none
  | v => ofC v

def evF : Operand → A → Option V
  | .tmp t => fun a => some (a.tm t)
  | .const v => fun _ => ofV v
  | .global _ => fun _ => none
  | .func f => fun _ => some (.fn f [] [])

def evs (a : A) : List Operand → Option (List V)
  | [] => some []
  | x :: xs => match evF x a with
    | some v => match evs a xs with
      | some vs => some (v :: vs)
      | none => none
    | none => none

def A.put (a : A) (d : Option Tmp) (v : V) : Option A := match d with
  | some d => match a with
    | ⟨t, n, ds⟩ => match setT t n d v with
      | some t => some ⟨t, n, ds⟩
      | none => none
  | none => some a

def V.cells : V → List V
  | .agg l => l
  | v => [v]

/-! ### integers -/

/-- the greatest number of a kind -/
def limK : IntKind → Nat
  | .i8 => nat_lit 127
  | .i16 => nat_lit 32767
  | .i32 => nat_lit 2147483647
  | .i64 => nat_lit 9223372036854775807
  | .u8 => nat_lit 255
  | .u16 => nat_lit 65535
  | .u32 => nat_lit 4294967295
  | .u64 => nat_lit 18446744073709551615

/-- a number as its kind holds it -/
def wr (k : IntKind) (n : Int) : Int := match n with
  | .ofNat m => Bool.casesOn (Nat.ble m (limK k)) (k.wrap (.ofNat m)) (.ofNat m)
  | .negSucc m => k.wrap (.negSucc m)

def ltI (x y : Int) : Bool := match x with
  | .ofNat a => match y with
    | .ofNat b => Nat.ble (Nat.succ a) b
    | .negSucc _ => false
  | .negSucc a => match y with
    | .ofNat _ => true
    | .negSucc b => Nat.ble (Nat.succ b) a

def eqI (x y : Int) : Bool := match x with
  | .ofNat a => match y with
    | .ofNat b => Nat.beq a b
    | .negSucc _ => false
  | .negSucc a => match y with
    | .ofNat _ => false
    | .negSucc b => Nat.beq a b

def eqK : IntKind → IntKind → Bool
  | .i8, .i8 | .i16, .i16 | .i32, .i32 | .i64, .i64 | .u8, .u8 | .u16, .u16 | .u32, .u32 | .u64, .u64 => true
  | _, _ => false

/-- two numbers that are not below nought, bit by bit -/
def bitN (f : Nat → Nat → Nat) (g : (k : IntKind) → Int → Int → Int) (k : IntKind) (x y : Int) : Int := match x with
  | .ofNat a => match y with
    | .ofNat b => Bool.casesOn (Nat.ble a (limK k) && Nat.ble b (limK k)) (g k (.ofNat a) (.ofNat b)) (.ofNat (f a b))
    | .negSucc b => g k (.ofNat a) (.negSucc b)
  | .negSucc a => g k (.negSucc a) y

def andB (k : IntKind) (x y : Int) : Int := k.wrap (BitVec.ofInt k.bits x &&& BitVec.ofInt k.bits y).toNat
def orB (k : IntKind) (x y : Int) : Int := k.wrap (BitVec.ofInt k.bits x ||| BitVec.ofInt k.bits y).toNat
def xorB (k : IntKind) (x y : Int) : Int := k.wrap (BitVec.ofInt k.bits x ^^^ BitVec.ofInt k.bits y).toNat
def andNotB (k : IntKind) (x y : Int) : Int := k.wrap (BitVec.ofInt k.bits x &&& ~~~ BitVec.ofInt k.bits y).toNat

def intBin : BinOp → IntKind → Int → Int → Option V
  | .add => fun k x y => some (.int k (wr k (Int.add x y)))
  | .sub => fun k x y => some (.int k (wr k (Int.sub x y)))
  | .mul => fun k x y => some (.int k (wr k (Int.mul x y)))
  | .quo => fun k x y => Bool.casesOn (eqI y (.ofNat (nat_lit 0))) (some (.int k (wr k (Int.tdiv x y)))) none
  | .rem => fun k x y => Bool.casesOn (eqI y (.ofNat (nat_lit 0))) (some (.int k (Int.tmod x y))) none
  | .and => fun k x y => some (.int k (bitN Nat.land andB k x y))
  | .or => fun k x y => some (.int k (bitN Nat.lor orB k x y))
  | .xor => fun k x y => some (.int k (bitN Nat.xor xorB k x y))
  | .andNot => fun k x y => some (.int k (andNotB k x y))
  | .eql => fun _ x y => some (.bool (eqI x y))
  | .neq => fun _ x y => some (.bool (!(eqI x y)))
  | .lss => fun _ x y => some (.bool (ltI x y))
  | .leq => fun _ x y => some (.bool (!(ltI y x)))
  | .gtr => fun _ x y => some (.bool (ltI y x))
  | .geq => fun _ x y => some (.bool (!(ltI x y)))
  | _ => fun _ _ _ => none

def shlV (k : IntKind) (x y : Int) : Option V := match y with
  | .ofNat n => some (.int k (wr k (Int.mul x (.ofNat (Nat.pow (nat_lit 2) (Nat.min n k.bits))))))
  | .negSucc _ => none
def shrV (k : IntKind) (x y : Int) : Option V := match y with
  | .ofNat n => some (.int k (Int.fdiv x (.ofNat (Nat.pow (nat_lit 2) (Nat.min n k.bits)))))
  | .negSucc _ => none

def strBin : BinOp → ByteArray → ByteArray → Option V
  | .add => fun x y => if ((x.size + y.size : Nat) : Int) > IntKind.i64.max then none else some (.str (x ++ y))
  | .eql => fun x y => some (.bool (x.toList == y.toList))
  | .neq => fun x y => some (.bool (!(x.toList == y.toList)))
  | .lss => fun x y => some (.bool (Op.bytesLess x.toList y.toList))
  | .leq => fun x y => some (.bool (Op.bytesLess x.toList y.toList || x.toList == y.toList))
  | .gtr => fun x y => some (.bool (!(Op.bytesLess x.toList y.toList || x.toList == y.toList)))
  | .geq => fun x y => some (.bool (!(Op.bytesLess x.toList y.toList)))
  | _ => fun _ _ => none

/-- kinds of scalars that a struct may hold to be compared -/
def scalT (P : Program) (t : TypeId) : Bool :=
  match P.underlying t with
  | some .bool => true
  | some (.int _) => true
  | some .string => true
  | _ => false

/-- the fields lie one behind the other, are scalars, and have names -/
def eqFields (P : Program) : List Field → Nat → Bool
  | [], _ => true
  | f :: fs, i => match decide (f.name = "_") with
    | true => false
    | false => match Nat.beq f.offset i with
      | true => match scalT P f.type with
        | true => eqFields P fs (Nat.succ i)
        | false => false
      | false => false

/-- one scalar of a struct that is compared -/
def eqScal (d : Option TypeDesc) (a b : V) : Option Bool :=
  match d with
  | some .bool => match a with
    | .bool x => match b with
      | .bool y => some (x == y)
      | _ => none
    | _ => none
  | some (.int _) => match a with
    | .int k x => match b with
      | .int j y => Bool.casesOn (eqK k j) none (some (eqI x y))
      | _ => none
    | _ => none
  | some .string => match a with
    | .str x => match b with
      | .str y => some (x == y)
      | _ => none
    | _ => none
  | _ => none

def eqScals (P : Program) : List Field → List V → List V → Option Bool
  | [], _, _ => some true
  | f :: fs, a :: as, b :: bs => match eqScal (P.underlying f.type) a b with
    | some true => eqScals P fs as bs
    | some false => some false
    | none => none
  | _, _, _ => none

def eqStructV (P : Program) (t : TypeId) (fs : List Field) (l m : List V) : Option Bool :=
  match P.stoodInHeld t with
  | true => none
  | false => match eqFields P fs 0 with
    | true => eqScals P fs l m
    | false => none

def eqV (P : Program) (t : TypeId) (a b : V) : Option Bool :=
  match P.underlying t with
  | some .bool => match a with
    | .bool x => match b with
      | .bool y => some (x == y)
      | _ => none
    | _ => none
  | some (.pointer _) => match a with
    | .ptr0 => match b with
      | .ptr0 => some true
      | .ptr _ _ => some false
      | _ => none
    | .ptr _ _ => match b with
      | .ptr0 => some false
      | _ => none
    | _ => none
  | some (.slice _) => match a with
    | .sl0 => match b with
      | .sl0 => some true
      | .slE => some false
      | .sl .. => some false
      | _ => none
    | .slE => match b with
      | .sl0 => some false
      | _ => none
    | .sl .. => match b with
      | .sl0 => some false
      | _ => none
    | _ => none
  | some (.map _ _) => match a with
    | .map0 => match b with
      | .map0 => some true
      | .map _ => some false
      | _ => none
    | .map _ => match b with
      | .map0 => some false
      | _ => none
    | _ => none
  | some (.struct fs) => match a with
    | .agg l => match b with
      | .agg m => eqStructV P t fs.toList l m
      | _ => none
    | _ => none
  | _ => none

def eqB (c : Bool) (x : Option Bool) : Option V := Option.casesOn x none fun b => some (.bool (b == c))

def binInt : BinOp → IntKind → Int → IntKind → Int → Option V
  | .shl => fun k x _ y => shlV k x y
  | .shr => fun k x _ y => shrV k x y
  | op => fun k x k' y => Bool.casesOn (eqK k k') none (intBin op k x y)

def binEq (P : Program) (op : BinOp) (t : TypeId) (a b : V) : Option V :=
  match op with
  | .eql => eqB true (eqV P t a b)
  | .neq => eqB false (eqV P t a b)
  | _ => none

def binV (P : Program) (op : BinOp) (t : TypeId) (a b : V) : Option V :=
  match a with
  | .int k x => match b with
    | .int k' y => binInt op k x k' y
    | _ => none
  | .str x => match b with
    | .str y => strBin op x y
    | _ => none
  | a => binEq P op t a b

def unV : UnOp → V → Option V
  | .neg => fun
    | .int k n => some (.int k (wr k (Int.sub (.ofNat (nat_lit 0)) n)))
    | _ => none
  | .xor => fun
    | .int k n => some (.int k (xorB k (if k.signed then -1 else k.max) n))
    | _ => none
  | .not => fun
    | .bool b => some (.bool (!b))
    | _ => none
  | _ => fun _ => none

/-! ### addresses, fields, slices -/

def fieldOf (P : Program) (t : TypeId) (j : Nat) : Option Field :=
  match P.underlying t with
  | some (.struct fs) => fs[j]?
  | _ => none

def sizeT (P : Program) (t : TypeId) : Option Nat := (P.info? t).map (·.size)

def isAggT (P : Program) (t : TypeId) : Option Bool :=
  match P.underlying t with
  | some (.struct _) => some true
  | some (.array _ _) => some true
  | some _ => some false
  | none => none

/-- a part of an aggregate -/
def partV (P : Program) (t : TypeId) (l : List V) (off : Nat) : Option V :=
  match isAggT P t with
  | some true => match sizeT P t with
    | some n => some (.agg ((l.drop off).take n))
    | none => none
  | some false => l[off]?
  | none => none

def fieldV (P : Program) (t : TypeId) (a : V) (j : Nat) : Option V :=
  match fieldOf P t j with
  | some f => match a with
    | .agg l => partV P f.type l f.offset
    | _ => none
  | none => none

/-- where a field lies: nothing: it has no size -/
def fieldOff (P : Program) (t : TypeId) (j : Nat) : Option Nat :=
  match fieldOf P t j with
  | some f => match sizeT P f.type with
    | some 0 => none
    | some _ => some f.offset
    | none => none
  | none => none

def fieldAddrV (P : Program) (t : TypeId) (a : V) (j : Nat) : Option V :=
  match a with
  | .ptr i off => match fieldOff P t j with
    | some o => some (.ptr i (Nat.add off o))
    | none => none
  | _ => none

/-- elements: how many an array has (nothing: a slice), and their size -/
def rowT (P : Program) (t : TypeId) : Option (Option Nat × Nat) :=
  match P.underlying t with
  | some (.array len e) => match sizeT P e with
    | some s => some (some len, s)
    | none => none
  | some (.slice e) => match sizeT P e with
    | some s => some (none, s)
    | none => none
  | _ => none

def natOf (n : Int) : Option Nat := match n with
  | .ofNat n => some n
  | _ => none

def indexAddrV (P : Program) (t : TypeId) (a x : V) : Option V :=
  match x with
  | .int _ n => match natOf n with
    | some n => match a with
      | .ptr i off => match rowT P t with
        | some (some len, s) => match Nat.ble (Nat.succ n) len with
          | true => some (.ptr i (Nat.add off (Nat.mul n s)))
          | false => none
        | _ => none
      | .sl i off len _ _ => match rowT P t with
        | some (none, s) => match Nat.ble (Nat.succ n) len with
          | true => some (.ptr i (Nat.add off (Nat.mul n s)))
          | false => none
        | _ => none
      | _ => none
    | none => none
  | _ => none

def indexV (P : Program) (t : TypeId) (a x : V) : Option V :=
  match x with
  | .int _ n => match natOf n with
    | some n => match a with
      | .agg l => match P.underlying t with
        | some (.array len e) => if n < len then match sizeT P e with
          | some s => partV P e l (n * s)
          | none => none else none
        | _ => none
      | .str s => match P.underlying t with
        | some .string => match s.data.toList[n]? with
          | some b => some (.int .u8 b.toNat)
          | none => none
        | _ => none
      | _ => none
    | none => none
  | _ => none

/-- a bound of a slice expression -/
def boundV (y : Nat) (dflt : Nat) : Option (Option V) → Option Nat
  | some (some (.int _ n)) => match natOf n with
    | some m => match Nat.ble m y with
      | true => some m
      | false => none
    | none => none
  | some _ => none
  | none => some dflt

/-- the bounds of a slice expression without a greatest capacity: low, high -/
def bounds2 (len cap : Nat) (low high : Option (Option V)) : Option (Nat × Nat) :=
  match boundV cap len high with
  | some h => match boundV h 0 low with
    | some l => some (l, h)
    | none => none
  | none => none

/-- low, high, max -/
def bounds3 (cap : Nat) (low high : Option (Option V)) (max : Option V) : Option (Nat × Nat × Nat) :=
  match boundV cap cap (some max) with
  | some m => match high with
    | some high => match boundV m m (some high) with
      | some h => match boundV h 0 low with
        | some l => some (l, h, m)
        | none => none
      | none => none
    | none => none
  | none => none

def cutAt (i off size : Nat) (es : Nat) (l h m : Nat) : V :=
  match Nat.beq m l with
  | true => .sl i off (Nat.sub h l) (nat_lit 0) es
  | false => .sl i (Nat.add off (Nat.mul l size)) (Nat.sub h l) (Nat.sub m l) es

def sliceRow (i off len cap es size : Nat) (low high : Option (Option V)) : Option (Option V) → Option V
  | some max => match bounds3 cap low high max with
    | some (l, h, m) => some (cutAt i off size 0 l h m)
    | none => none
  | none => match bounds2 len cap low high with
    | some (l, h) => match es with
      | 0 => some (cutAt i off size 0 l h cap)
      | es + 1 => match Nat.beq (es + 1) size with
        | true => match Nat.ble (l + 1) cap with
          | true => some (.sl i (off + l * size) (h - l) (cap - l) (es + 1))
          | false => match Nat.ble h l with
            | true => some .slE
            | false => none
        | false => none
    | none => none

def sliceV (P : Program) (t : TypeId) (a : V) (low high max : Option (Option V)) : Option V :=
  match a with
  | .str s => match P.underlying t with
    | some .string => match max with
      | some _ => none
      | none => match bounds2 s.size s.size low high with
        | some (l, h) => some (.str (s.extract l h))
        | none => none
    | _ => none
  | .sl0 => match rowT P t with
    | some (none, _) => match max with
      | some _ => none
      | none => match bounds2 0 0 low high with
        | some _ => some .sl0
        | none => none
    | _ => none
  | .slE => match rowT P t with
    | some (none, _) => match max with
      | some _ => none
      | none => match bounds2 0 0 low high with
        | some _ => some .slE
        | none => none
    | _ => none
  | .sl i off len cap es => match rowT P t with
    | some (none, size) => sliceRow i off len cap es size low high max
    | _ => none
  | .ptr i off => match rowT P t with
    | some (some n, size) => sliceRow i off n n 0 size low high max
    | _ => none
  | _ => none

/-- parts of an aggregate that is built -/
def fillV (place : Nat → Option (Nat × Nat)) (cells : List V) : List (Nat × V) → Option (List V)
  | [] => some cells
  | (i, v) :: rest => match place i with
    | none => none
    | some (off, size) =>
      if v.cells.length ≠ size ∨ cells.length < off + v.cells.length then none
      else fillV place (cells.take off ++ (v.cells ++ cells.drop (off + v.cells.length))) rest

def zeroCellsT (P : Program) (t : TypeId) : Option (List V) :=
  match P.info? t with
  | some i => match i.zero with
    | some z => match ofV z with
      | some v => some v.cells
      | none => none
    | none => none
  | none => none

def partsEv (a : A) : List (Nat × Operand) → Option (List (Nat × V))
  | [] => some []
  | (i, x) :: rest => match evF x a with
    | some v => match partsEv a rest with
      | some l => some ((i, v) :: l)
      | none => none
    | none => none

def placesL (P : Program) : List Field → Option (List (Nat × Nat))
  | [] => some []
  | f :: fs => match sizeT P f.type with
    | some s => match placesL P fs with
      | some l => some ((f.offset, s) :: l)
      | none => none
    | none => none

def placeOf (P : Program) (t : TypeId) : Option (Nat → Option (Nat × Nat)) :=
  match P.underlying t with
  | some (.struct fields) => match placesL P fields.toList with
    | some l => some fun j => l[j]?
    | none => none
  | some (.array _ e) => match sizeT P e with
    | some size => some fun j => some (j * size, size)
    | none => none
  | _ => none

def buildV (P : Program) (t : TypeId) (parts : List (Nat × V)) : Option V :=
  match zeroCellsT P t with
  | some zero => match placeOf P t with
    | some place => match fillV place zero parts with
      | some l => some (.agg l)
      | none => none
    | none => none
  | none => none

/-- as many zero values, cell by cell -/
def zeros (z : List V) (n : Nat) : List V := Nat.rec [] (fun _ ih => z ++ ih) n

def loadV (P : Program) (ty : TypeId) (t : Tr V) (off : Nat) : Option V :=
  match isAggT P ty with
  | some true => match sizeT P ty with
    | some n => match t.getN n off with
      | some l => some (.agg l)
      | none => none
    | none => none
  | some false => t.get off
  | none => none

def okCell : V → Bool
  | .agg _ => false
  | .tup _ => false
  | _ => true

def okCells : List V → Bool
  | [] => true
  | v :: vs => match okCell v with
    | true => okCells vs
    | false => false

/-- cells written into an object -/
def writeC (t : Tr V) (n off : Nat) (l : List V) : Option O :=
  match Nat.ble (off + l.length) n with
  | true => match okCells l with
    | true => match Tr.putN l t off with
      | some t' => some (.cells t' n)
      | none => none
    | false => none
  | false => none

/-- a new object of cells -/
def newC (l : List V) : Option O :=
  match okCells l with
  | true => match Tr.ofL l with
    | some t => some (.cells t l.length)
    | none => none
  | false => none

/-! ### maps -/

def keyEq : V → V → Option Bool
  | .int k a, .int k' b => Bool.casesOn (eqK k k') none (some (eqI a b))
  | .str a, .str b => some (a == b)
  | .bool a, .bool b => some (a == b)
  | _, _ => none

def findK (k : V) : List (V × V × Nat) → Nat → Option (Option (Nat × V × Nat))
  | [], _ => some none
  | (e, v, b) :: es, i => match keyEq k e with
    | some true => some (some (i, v, b))
    | some false => findK k es (i + 1)
    | none => none

def okKey (P : Program) (t : TypeId) (k : V) : Bool :=
  match P.underlying t with
  | some (.map kt _) => match P.underlying kt with
    | some (.int _) => match k with
      | .int _ _ => true
      | _ => false
    | some .string => match k with
      | .str _ => true
      | _ => false
    | some .bool => match k with
      | .bool _ => true
      | _ => false
    | _ => false
  | _ => false

def mapElemT (P : Program) (t : TypeId) : Option TypeId :=
  match P.underlying t with
  | some (.map _ e) => some e
  | _ => none

def sliceElemT (P : Program) (t : TypeId) : Option TypeId :=
  match P.underlying t with
  | some (.slice e) => some e
  | _ => none

end Go.AM

namespace Go.AM

abbrev Rho := Operand → Option V

def evsR (ρ : Rho) : List Operand → Option (List V)
  | [] => some []
  | x :: xs => match ρ x with
    | some v => match evsR ρ xs with
      | some vs => some (v :: vs)
      | none => none
    | none => none

def partsR (ρ : Rho) : List (Nat × Operand) → Option (List (Nat × V))
  | [] => some []
  | (i, x) :: rest => match ρ x with
    | some v => match partsR ρ rest with
      | some l => some ((i, v) :: l)
      | none => none
    | none => none

def optR (ρ : Rho) : Option Operand → Option (Option V)
  | none => none
  | some x => some (ρ x)

def convV (P : Program) (d : TypeId) (x : V) : Option V :=
  match P.underlying d with
  | some (.int k) => match x with
    | .int _ n => some (.int k (wr k n))
    | _ => none
  | some .string => match x with
    | .str s => some (.str s)
    | _ => none
  | _ => none

def lenV (P : Program) (t : TypeId) (x : V) : Option V :=
  match P.underlying t with
  | some .string => match x with
    | .str s => some (.int .i64 (.ofNat s.size))
    | _ => none
  | some (.array n _) => some (.int .i64 (.ofNat n))
  | some (.slice _) => match x with
    | .sl0 => some (.int .i64 0)
    | .slE => some (.int .i64 0)
    | .sl _ _ n _ _ => some (.int .i64 (.ofNat n))
    | _ => none
  | _ => none

def minV : V → List V → Option V
  | v, [] => some v
  | .int k x, .int _ y :: rest => minV (.int k (Bool.casesOn (ltI y x) x y)) rest
  | _, _ => none

def maxV : V → List V → Option V
  | v, [] => some v
  | .int k x, .int _ y :: rest => maxV (.int k (Bool.casesOn (ltI x y) x y)) rest
  | _, _ => none

/-! ### operations that look at no memory -/

abbrev PureF := Program → Rho → Option V

def pNo : PureF := fun _ _ => none
def pMove (x : Operand) : PureF := fun _ ρ => ρ x
def pPick (c x y : Operand) : PureF := fun _ ρ => match ρ c with
  | some (.bool b) => Bool.casesOn b (ρ y) (ρ x)
  | _ => none
def pBuild (t : TypeId) (ps : Array (Nat × Operand)) : PureF := fun P ρ => match partsR ρ ps.toList with
  | some l => buildV P t l
  | none => none
def pNil (x : Operand) : PureF := fun _ ρ => match ρ x with
  | some (.ptr i off) => some (.ptr i off)
  | some (.fn f first cap) => some (.fn f first cap)
  | some (.yld l) => some (.yld l)
  | _ => none
def pBin (op : BinOp) (t : TypeId) (x y : Operand) : PureF := fun P ρ => match ρ x with
  | some u => match ρ y with
    | some v => binV P op t u v
    | none => none
  | none => none
def pUn (op : UnOp) (x : Operand) : PureF := fun _ ρ => match ρ x with
  | some u => unV op u
  | none => none
def pConv (d : TypeId) (x : Operand) : PureF := fun P ρ => match ρ x with
  | some u => convV P d u
  | none => none
def pArr (t : TypeId) (x : Operand) : PureF := fun P ρ => match ρ x with
  | some (.sl i off len _ _) => match P.underlying t with
    | some (.array n _) => if len < n then none else some (.ptr i off)
    | _ => none
  | _ => none
def pIface (t : TypeId) (x : Operand) : PureF := fun P ρ => match ρ x with
  | some u => match P.underlying t with
    | some (.interface _) => none
    | some _ => some (.ifc t u)
    | none => none
  | none => none
def pFunc (fn : Fn) (first cap : Array Operand) : PureF := fun _ ρ => match fn with
  | .func f => match evsR ρ first.toList with
    | some l => match evsR ρ cap.toList with
      | some m => some (.fn f l m)
      | none => none
    | none => none
  | _ => none
def pSlice (t : TypeId) (x : Operand) (l h m : Option Operand) : PureF := fun P ρ => match ρ x with
  | some u => sliceV P t u (optR ρ l) (optR ρ h) (optR ρ m)
  | none => none
def pFA (t : TypeId) (x : Operand) (j : Nat) : PureF := fun P ρ => match ρ x with
  | some u => fieldAddrV P t u j
  | none => none
def pField (t : TypeId) (x : Operand) (j : Nat) : PureF := fun P ρ => match ρ x with
  | some u => fieldV P t u j
  | none => none
def pIA (t : TypeId) (x i : Operand) : PureF := fun P ρ => match ρ x with
  | some u => match ρ i with
    | some v => indexAddrV P t u v
    | none => none
  | none => none
def pIndex (t : TypeId) (x i : Operand) : PureF := fun P ρ => match ρ x with
  | some u => match ρ i with
    | some v => indexV P t u v
    | none => none
  | none => none
def pExtract (x : Operand) (i : Nat) : PureF := fun _ ρ => match ρ x with
  | some (.tup l) => l[i]?
  | _ => none
def pLen (ts : Array TypeId) (xs : Array Operand) : PureF := fun P ρ => match xs.toList with
  | [x] => match ρ x with
    | some u => match ts.toList with
      | t :: _ => lenV P t u
      | [] => none
    | none => none
  | _ => none
def pMin (xs : Array Operand) : PureF := fun _ ρ => match evsR ρ xs.toList with
  | some (v :: vs) => minV v vs
  | _ => none
def pMax (xs : Array Operand) : PureF := fun _ ρ => match evsR ρ xs.toList with
  | some (v :: vs) => maxV v vs
  | _ => none

/-- bytes as a text -/
def bytesOf : List V → Option (List UInt8)
  | [] => some []
  | .int .u8 n :: vs => match bytesOf vs with
    | some l => some (UInt8.ofNat n.toNat :: l)
    | none => none
  | _ => none

/-! ### operations that read memory -/

abbrev ReadF := Program → Rho → St → Option V

def zeroT (P : Program) (t : TypeId) : Option V :=
  match P.info? t with
  | some i => match i.zero with
    | some z => ofV z
    | none => none
  | none => none

def lookV (P : Program) (t : TypeId) (es : List (V × V × Nat)) (k : V) (ok : Bool) : Option V :=
  match okKey P t k with
  | true => match findK k es 0 with
    | some (some (_, v, _)) => some (Bool.casesOn ok v (.tup [v, .bool true]))
    | some none => match mapElemT P t with
      | some e => match zeroT P e with
        | some v => some (Bool.casesOn ok v (.tup [v, .bool false]))
        | none => none
      | none => none
    | none => none
  | false => none

def rLoad (t : TypeId) (x : Operand) : ReadF := fun P ρ s => match ρ x with
  | some (.ptr i off) => match s.get i with
    | some (.cells l _) => loadV P t l off
    | _ => none
  | _ => none
def rLook (t : TypeId) (x k : Operand) (ok : Bool) : ReadF := fun P ρ s => match ρ x with
  | some (.map i) => match ρ k with
    | some k => match s.get i with
      | some (.map es _) => lookV P t es k ok
      | _ => none
    | none => none
  | some .map0 => match ρ k with
    | some k => lookV P t [] k ok
    | none => none
  | _ => none
def rStr (src d : TypeId) (x : Operand) : ReadF := fun P ρ s => match P.underlying d with
  | some .string => match P.underlying src with
    | some (.slice e) => match P.underlying e with
      | some (.int .u8) => match ρ x with
        | some .sl0 => some (.str .empty)
        | some .slE => some (.str .empty)
        | some (.sl i off len _ _) => match s.get i with
          | some (.cells t _) => match t.getN len off with
            | some m => match bytesOf m with
              | some bs => some (.str ⟨⟨bs⟩⟩)
              | none => none
            | none => none
          | _ => none
        | _ => none
      | _ => none
    | _ => none
  | _ => none
/-- an address taken as an unsafe pointer -/
def rUnsafe (t : TypeId) (x : Operand) : ReadF := fun P ρ s => match ρ x with
  | some (.ptr i off) => match s.get i with
    | some (.cells _ n) => match Nat.ble (Nat.succ off) n with
      | true => match sizeT P t with
        | some k => match Nat.ble 1 k with
          | true => some (.ptr i off)
          | false => none
        | none => none
      | false => none
    | _ => none
  | _ => none
def rLen (ts : Array TypeId) (xs : Array Operand) : ReadF := fun P ρ s => match xs.toList with
  | [x] => match ts.toList with
    | t :: _ => match P.underlying t with
      | some (.map _ _) => match ρ x with
        | some .map0 => some (.int .i64 0)
        | some (.map i) => match s.get i with
          | some (.map es _) => some (.int .i64 (.ofNat es.length))
          | _ => none
        | _ => none
      | _ => none
    | [] => none
  | _ => none

/-! ### operations that lay one new object: the object, and the value that leads to it -/

/-- the value that leads to a new object, by the object's number -/
inductive Lead where
  | ptr
  | sl (len cap es : Nat)
  | map

def Lead.at (l : Lead) (i : Nat) : V := match l with
  | .ptr => .ptr i 0
  | .sl len cap es => .sl i 0 len cap es
  | .map => .map i

abbrev AllocF := Program → Rho → Option (O × Lead)

def aWith (v : Lead) (o : Option O) : Option (O × Lead) := Option.casesOn o none fun o => some (o, v)

def aAlloc (t : TypeId) : AllocF := fun P _ => match zeroCellsT P t with
  | some z => aWith .ptr (newC z)
  | none => none
def aBox (x : Operand) : AllocF := fun _ ρ => match ρ x with
  | some v => aWith .ptr (newC v.cells)
  | none => none
def aBuild (t : TypeId) (len : Nat) (parts : Array (Nat × Operand)) : AllocF := fun P ρ => match sliceElemT P t with
  | some e => match sizeT P e with
    | some size => match zeroCellsT P e with
      | some z => match partsR ρ parts.toList with
        | some ps => if 16777216 < len * size ∨ z.length ≠ size then none else match fillV (fun i => some (i * size, size)) (zeros z len) ps with
          | some l => aWith (.sl len len 0) (newC l)
          | none => none
        | none => none
      | none => none
    | none => none
  | none => none
def aMake (t : TypeId) (l c : Operand) : AllocF := fun P ρ => match sliceElemT P t with
  | some e => match P.info? e with
    | some inf => match ρ l with
      | some (.int _ l) => match ρ c with
        | some (.int _ c) => match natOf l with
          | some l => match natOf c with
            | some c => if l ≤ c ∧ inf.bytes ≤ 1000000 ∧ c ≤ 1000000 then match zeroCellsT P e with
              | some z => if z.length = inf.size then aWith (.sl l c 0) (newC (zeros z c)) else none
              | none => none else none
            | none => none
          | none => none
        | _ => none
      | _ => none
    | none => none
  | none => none
def aMap (t : TypeId) (r : Option Operand) : AllocF := fun P ρ => match r with
  | none => some (.map [] 0, .map)
  | some x => match P.underlying t with
    | some (.map _ _) => match ρ x with
      | some (.int _ _) => some (.map [] 0, .map)
      | _ => none
    | _ => none
def byteV (b : UInt8) : V := .int .u8 b.toNat
def aBytes (src d : TypeId) (x : Operand) : AllocF := fun P ρ => match sliceElemT P d with
  | some e => match P.underlying e with
    | some (.int .u8) => match ρ x with
      | some (.str s) => aWith (.sl s.size s.size 1) (newC (s.data.toList.map byteV))
      | _ => none
    | _ => none
  | none => none

/-! ### operations that write memory -/

abbrev WriteF := Program → Rho → St → Option (V × St)

def wWith (v : V) (s : Option St) : Option (V × St) := Option.casesOn s none fun s => some (v, s)
def wPut (v : V) (s : St) (i : Nat) (o : Option O) : Option (V × St) := match o with
  | some o => wWith v (s.put i (some o))
  | none => none

/-- what is appended -/
def newsOf (size : Nat) (x : V) (s : St) : Option (Nat × List V) :=
  match x with
  | .sl0 => some (0, [])
  | .slE => some (0, [])
  | .sl i off len _ _ => match s.get i with
    | some (.cells t _) => match t.getN (len * size) off with
      | some m => some (len, m)
      | none => none
    | _ => none
  | .str t => match Nat.beq size 1 with
    | true => some (t.size, t.data.toList.map byteV)
    | false => none
  | _ => none

/-- an append of values, not of a make -/
def plainApp (P : Program) : List TypeId → Bool
  | [_] => true
  | _ :: t :: _ => match P.underlying t with
    | some (.int _) => false
    | some _ => true
    | none => false
  | [] => false

/-- the elements' size -/
def okApp (P : Program) (e : TypeId) : Option Nat :=
  match P.info? e with
  | some i => match Nat.ble 1 i.bytes && (Nat.ble i.bytes 1000000 && Nat.ble 1 i.size) with
    | true => match zeroCellsT P e with
      | some z => match Nat.beq z.length i.size with
        | true => some i.size
        | false => none
      | none => none
    | false => none
  | none => none

/-- an append that must lay a new row -/
def wNew (l : Lead) (r : Option (Nat × St)) : Option (V × St) := match r with
  | some (i, s) => some (l.at i, s)
  | none => none
def appNew (size n : Nat) (l : List V) (s : St) : Option (V × St) := match Nat.ble n 1000000 with
  | true => match newC l with
    | some o => wNew (.sl n n size) (s.new o)
    | none => none
  | false => none

/-- an append to a row that has room -/
def appIn (i off len cap es size n : Nat) (news : List V) (s : St) (t : Tr V) (m : Nat) : Option (V × St) :=
  wPut (.sl i off (len + n) cap es) s i (writeC t m (off + len * size) news)

/-- an append to a row that has no room, or of which nobody knows whether it has -/
def appOut (i off len es size n : Nat) (news l : List V) (s : St) (m : Nat) : Option (V × St) :=
  match es with
  | 0 => appNew size (len + n) (l ++ news) s
  | es + 1 => match Nat.beq (es + 1) size && (Nat.beq off 0 && Nat.ble (len * size) m) with
    | true => match s.put i none with
      | some s' => appNew size (len + n) (l ++ news) s'
      | none => none
    | false => none

/-- where an append ends -/
def appendV (size : Nat) (x : V) (n : Nat) (news : List V) (s : St) : Option (V × St) :=
  match n with
  | 0 => match x with
    | .sl0 => some (.sl0, s)
    | .slE => some (.slE, s)
    | .sl i off len cap es => match Nat.ble len cap with
      | true => some (.sl i off len cap es, s)
      | false => none
    | _ => none
  | n + 1 => match x with
    | .sl0 => appNew size (n + 1) news s
    | .sl i off len cap es => match s.get i with
      | some (.cells t m) => match Nat.ble (len + (n + 1)) cap with
        | true => appIn i off len cap es size (n + 1) news s t m
        | false => match t.getN (len * size) off with
          | some l => appOut i off len es size (n + 1) news l s m
          | none => none
      | _ => none
    | _ => none

def wStore (t : TypeId) (x v : Operand) : WriteF := fun P ρ s => match ρ x with
  | some (.ptr i off) => match ρ v with
    | some v => match s.get i with
      | some (.cells tr n) => match sizeT P t with
        | some k => match Nat.beq k v.cells.length with
          | true => wPut .undef s i (writeC tr n off v.cells)
          | false => none
        | none => none
      | _ => none
    | none => none
  | _ => none
def setM (es : List (V × V × Nat)) (clock : Nat) (k v : V) : Option O := match findK k es 0 with
  | some (some (j, _, b)) => some (.map (es.set j (k, v, b)) clock)
  | some none => some (.map (es ++ [(k, v, clock)]) (Nat.succ clock))
  | none => none
def wMap (t : TypeId) (m k v : Operand) : WriteF := fun P ρ s => match ρ m with
  | some (.map i) => match ρ k with
    | some k => match ρ v with
      | some v => match okKey P t k with
        | true => match s.get i with
          | some (.map es clock) => wPut .undef s i (setM es clock k v)
          | _ => none
        | false => none
      | none => none
    | none => none
  | _ => none
def wConv (src d : TypeId) (x : Operand) : WriteF := fun P ρ s => match Nat.beq src d with
  | true => match sliceElemT P d with
    | some e => match P.underlying e with
      | some (.int .u8) => match ρ x with
        | some (.sl i off len cap es) => match s.get i with
          | some (.cells _ _) => some (.sl i off len cap es, s)
          | _ => none
        | _ => none
      | _ => none
    | none => none
  | false => none
def wRange (t : TypeId) (x : Operand) : WriteF := fun P ρ s => match P.underlying t with
  | some (.map _ _) => match ρ x with
    | some (.map i) => match s.get i with
      | some (.map _ clock) => wNew .ptr (s.new (.iter i clock [] clock))
      | _ => none
    | _ => none
  | _ => none
/-- entries that have not come yet -/
def leftM (seen : List Nat) (es : List (V × V × Nat)) : List (V × V × Nat) := es.filter fun e => !seen.contains e.2.2
def staleM (seen : List Nat) (last : Nat) (es : List (V × V × Nat)) : Bool := !seen.isEmpty && (!es.isEmpty && es.all fun e => decide (last ≤ e.2.2))
def wNext (x : Operand) (isString : Bool) : WriteF := fun _ ρ s => match isString with
  | true => none
  | false => match ρ x with
    | some (.ptr j 0) => match s.get j with
      | some (.iter i since seen last) => match s.get i with
        | some (.map es clock) => match staleM seen last es with
          | true => none
          | false => match leftM seen es with
            | [] => some (.tup [.bool false], s)
            | [(k, v, b)] => match Nat.ble (Nat.succ b) since with
              | true => wPut (.tup [.bool true, k, v]) s j (some (.iter i since (seen ++ [b]) clock))
              | false => none
            | _ => none
        | _ => none
      | _ => none
    | _ => none
def lastOf : List Nat → Option Nat
  | [] => none
  | [b] => some b
  | _ :: bs => lastOf bs
def wEntry (x : Operand) : WriteF := fun _ ρ s => match ρ x with
  | some (.ptr j 0) => match s.get j with
    | some (.iter i _ seen last) => match s.get i with
      | some (.map es clock) => match Nat.beq clock last with
        | true => match lastOf seen with
          | some b => match es.find? fun e => Nat.beq e.2.2 b with
            | some (k, v, _) => some (.tup [k, v], s)
            | none => none
          | none => none
        | false => none
      | _ => none
    | _ => none
  | _ => none
def wAppend (ts : Array TypeId) (xs : Array Operand) : WriteF := fun P ρ s => match xs.toList with
  | [x, y] => match ρ x with
    | some x => match ρ y with
      | some y => match plainApp P ts.toList with
        | true => match ts.toList with
          | t :: _ => match sliceElemT P t with
            | some e => match okApp P e with
              | some size => match newsOf size y s with
                | some (n, news) => appendV size x n news s
                | none => none
              | none => none
            | none => none
          | [] => none
        | false => none
      | none => none
    | none => none
  | _ => none
def wCopy (ts : Array TypeId) (xs : Array Operand) : WriteF := fun P ρ s => match xs.toList with
  | [x, y] => match ρ x with
    | some (.sl i off len _ _) => match ρ y with
      | some y => match ts.toList with
        | t :: _ => match sliceElemT P t with
          | some e => match sizeT P e with
            | some size => match newsOf size y s with
              | some (n, news) => match s.get i with
                | some (.cells tr m) => wPut (.int .i64 (.ofNat (Nat.min n len))) s i (writeC tr m off (news.take (Nat.mul (Nat.min n len) size)))
                | _ => none
              | none => none
            | none => none
          | none => none
        | [] => none
      | none => none
    | _ => none
  | _ => none
def wClear (ts : Array TypeId) (xs : Array Operand) : WriteF := fun P ρ s => match xs.toList with
  | [x] => match ts.toList with
    | t :: _ => match ρ x with
      | some (.map i) => match mapElemT P t with
        | some _ => match s.get i with
          | some (.map _ clock) => wPut .undef s i (some (.map [] clock))
          | _ => none
        | none => none
      | some (.sl i off len _ _) => match sliceElemT P t with
        | some e => match zeroCellsT P e with
          | some z => match sizeT P e with
            | some k => match Nat.beq k z.length && Nat.ble 1 len with
              | true => match s.get i with
                | some (.cells tr m) => wPut .undef s i (writeC tr m off (zeros z len))
                | _ => none
              | false => none
            | none => none
          | none => none
        | none => none
      | _ => none
    | [] => none
  | _ => none
def wDelete (ts : Array TypeId) (xs : Array Operand) : WriteF := fun P ρ s => match xs.toList with
  | [x, k] => match ts.toList with
    | t :: _ => match ρ x with
      | some (.map i) => match ρ k with
        | some k => match okKey P t k with
          | true => match s.get i with
            | some (.map es clock) => match findK k es 0 with
              | some (some (j, _, _)) => wPut .undef s i (some (.map (es.eraseIdx j) clock))
              | some none => some (.undef, s)
              | none => none
            | _ => none
          | false => none
        | none => none
      | _ => none
    | [] => none
  | _ => none

/-! ### what an operation is -/

/-- a callee that is a value, or a deferred call: by themselves -/
inductive Cl where
  | pure (f : PureF)
  | read (f : ReadF)
  | alloc (f : AllocF)
  | write (f : WriteF)
  | call (f : Operand) (xs : Array Operand)
  | defer (f : Operand) (xs : Array Operand)
  | no

def convCl (src d : TypeId) (x : Operand) (P : Program) : Cl :=
  match P.underlying d with
  | some (.int _) => match P.underlying src with
    | some _ => .pure (pConv d x)
    | none => .no
  | some (.slice _) => match P.underlying src with
    | some (.slice _) => .write (wConv src d x)
    | some .string => .alloc (aBytes src d x)
    | _ => .no
  | some .string => match P.underlying src with
    | some (.slice _) => .read (rStr src d x)
    | some .string => .pure (pConv d x)
    | _ => .no
  | some .unsafePointer => match P.underlying src with
    | some (.pointer t) => .read (rUnsafe t x)
    | _ => .no
  | _ => .no

def lenCl (ts : Array TypeId) (xs : Array Operand) (P : Program) : Cl :=
  match ts.toList with
  | t :: _ => match P.underlying t with
    | some (.map _ _) => .read (rLen ts xs)
    | _ => .pure (pLen ts xs)
  | [] => .no

def builtinCl : Builtin → Array TypeId → Array Operand → Program → Cl
  | .len => lenCl
  | .min => fun _ xs _ => .pure (pMin xs)
  | .max => fun _ xs _ => .pure (pMax xs)
  | .append => fun ts xs _ => .write (wAppend ts xs)
  | .copy => fun ts xs _ => .write (wCopy ts xs)
  | .clear => fun ts xs _ => .write (wClear ts xs)
  | .delete => fun ts xs _ => .write (wDelete ts xs)
  | _ => fun _ _ _ => .no

def callCl (c : Call) (P : Program) : Cl :=
  match c.callee with
  | .builtin b => builtinCl b c.argTypes c.args P
  | .value f => .call f c.args
  | .invoke _ _ => .no

def deferCl (c : Call) : Cl :=
  match c.callee with
  | .value f => .defer f c.args
  | _ => .no

def cl : Op → Program → Cl
  | .move x => fun _ => .pure (pMove x)
  | .assign x => fun _ => .pure (pMove x)
  | .pick c x y => fun _ => .pure (pPick c x y)
  | .build t ps => fun _ => .pure (pBuild t ps)
  | .nilCheck x => fun _ => .pure (pNil x)
  | .binOp op t x y _ => fun _ => .pure (pBin op t x y)
  | .unOp op _ x => fun _ => .pure (pUn op x)
  | .convert s d x => convCl s d x
  | .sliceToArrayPointer t x => fun _ => .pure (pArr t x)
  | .makeInterface t x => fun _ => .pure (pIface t x)
  | .makeFunc fn first cap => fun _ => .pure (pFunc fn first cap)
  | .slice t x l h m => fun _ => .pure (pSlice t x l h m)
  | .fieldAddr t x j => fun _ => .pure (pFA t x j)
  | .field t x j => fun _ => .pure (pField t x j)
  | .indexAddr t x i => fun _ => .pure (pIA t x i)
  | .index t x i => fun _ => .pure (pIndex t x i)
  | .extract x i => fun _ => .pure (pExtract x i)
  | .load t x => fun _ => .read (rLoad t x)
  | .lookup t x k ok => fun _ => .read (rLook t x k ok)
  | .alloc t => fun _ => .alloc (aAlloc t)
  | .box _ x => fun _ => .alloc (aBox x)
  | .buildSlice t n ps => fun _ => .alloc (aBuild t n ps)
  | .makeSlice t l c => fun _ => .alloc (aMake t l c)
  | .makeMap t r => fun _ => .alloc (aMap t r)
  | .store t x v => fun _ => .write (wStore t x v)
  | .mapUpdate t m k v => fun _ => .write (wMap t m k v)
  | .insert t m k v => fun _ => .write (wMap t m k v)
  | .range t x => fun _ => .write (wRange t x)
  | .next x b => fun _ => .write (wNext x b)
  | .entry x => fun _ => .write (wEntry x)
  | .call c => callCl c
  | .defer c => fun _ => deferCl c
  | _ => fun _ => .no

inductive X where
  | normal
  | exit (id : Nat)
  | goto (l : Nat)
  | ret

abbrev Out := Option (X × A × St)

structure Ev where
  code : Option Nat → Code → A → St → Out
  call : FuncId → List V → St → Option (V × St)
  round : Nat → List V → St → Option (V × St)

/-- functions that are known as they are: may one be deferred? -/
abbrev Known := FuncId → Option (Bool × (List V → St → Option (V × St)))

/-- a level's surroundings -/
structure Sur where
  P : Program
  K : Known
  e : Ev
  rnd : Option Nat

def callFn (u : Sur) (f : FuncId) (args : List V) (s : St) : Option (V × St) := match u with
  | ⟨_, K, e, _⟩ => match K f with
    | some (_, g) => g args s
    | none => e.call f args s

def callOp (u : Sur) (f : Operand) (xs : Array Operand) (a : A) (s : St) : Option (V × St) :=
  match evF f a with
  | some (.fn f first cap) => match evs a xs.toList with
    | some l => callFn u f (first ++ (l ++ cap)) s
    | none => none
  | some (.yld l) => match evs a xs.toList with
    | some vs => match u with
      | ⟨_, _, e, _⟩ => e.round l vs s
    | none => none
  | _ => none

def deferOp (f : Operand) (xs : Array Operand) (a : A) : Option D :=
  match evF f a with
  | some (.fn f first cap) => match evs a xs.toList with
    | some l => some (.call f (first ++ (l ++ cap)))
    | none => none
  | _ => none

abbrev Two := Option (A × St)

def outV (a : A) (d : Option Tmp) (s : St) (v : Option V) : Two := match v with
  | some v => match a.put d v with
    | some a => some (a, s)
    | none => none
  | none => none

def outVS (a : A) (d : Option Tmp) (r : Option (V × St)) : Two := match r with
  | some (v, s) => match a.put d v with
    | some a => some (a, s)
    | none => none
  | none => none

def outOV (a : A) (d : Option Tmp) (s : St) (r : Option (O × Lead)) : Two := match r with
  | some (o, l) => outVS a d (wNew l (s.new o))
  | none => none

def outD (u : Sur) (a : A) (d : Option Tmp) (s : St) (x : Option D) : Two := match u.rnd with
  | some _ => none
  | none => match x with
    | some x => match a with
      | ⟨t, n, ds⟩ => match A.put ⟨t, n, x :: ds⟩ d V.undef with
        | some a => some (a, s)
        | none => none
    | none => none

/-- one operation, by what it is -/
def op1 (P : Program) (u : Sur) (dst : Option Tmp) (a : A) (s : St) : Cl → Two
  | .pure f => outV a dst s (f P fun x => evF x a)
  | .read f => outV a dst s (f P (fun x => evF x a) s)
  | .alloc f => outOV a dst s (f P fun x => evF x a)
  | .write f => outVS a dst (f P (fun x => evF x a) s)
  | .call f xs => outVS a dst (callOp u f xs a s)
  | .defer f xs => outD u a dst s (deferOp f xs a)
  | .no => none

def guardV (ops : List Oper) (a : A) (j : Nat) (want : Bool) : Bool := match ops[j]? with
  | some p => match p.dst with
    | some d => match a.tm d with
      | .bool b => b == want
      | _ => false
    | none => false
  | none => false

/-- is an operation asked for? -/
def wantedV (ops : List Oper) (a : A) (g : Option (Nat × Bool)) : Bool :=
  match g with
  | none => true
  | some (j, want) => guardV ops a j want

def opsK (k : A → St → Two) (r : Two) : Two := match r with
  | some (a, s) => k a s
  | none => none

def opsStep (P : Program) (u : Sur) (ops : List Oper) (o : Oper) (k : A → St → Two) (a : A) (s : St) : Two := match o with
  | ⟨dst, op, _, _, _, guard⟩ => match wantedV ops a guard with
    | true => opsK k (op1 P u dst a s (cl op P))
    | false => opsK k (outV a dst s (some V.undef))

def opsL (P : Program) (u : Sur) (ops : List Oper) : List Oper → A → St → Two
  | [] => fun a s => some (a, s)
  | o :: rest => opsStep P u ops o (opsL P u ops rest)

/-! ### regions that draw their order -/

mutual
def V.eqb : V → V → Bool
  | .bool a, .bool b => a == b
  | .int k a, .int j b => decide (k = j) && decide (a = b)
  | .str a, .str b => decide (a.data.toList = b.data.toList)
  | .ptr0, .ptr0 => true
  | .ptr i o, .ptr j p => Nat.beq i j && Nat.beq o p
  | .sl0, .sl0 => true
  | .slE, .slE => true
  | .sl a b c d e, .sl f g h i j => Nat.beq a f && (Nat.beq b g && (Nat.beq c h && (Nat.beq d i && Nat.beq e j)))
  | .map0, .map0 => true
  | .map i, .map j => Nat.beq i j
  | .fn f l m, .fn g l' m' => Nat.beq f g && (V.eqbs l l' && V.eqbs m m')
  | .yld i, .yld j => Nat.beq i j
  | .fn0, .fn0 => true
  | .ifc t v, .ifc u w => Nat.beq t u && V.eqb v w
  | .ifc0, .ifc0 => true
  | .agg l, .agg m => V.eqbs l m
  | .tup l, .tup m => V.eqbs l m
  | _, _ => false
def V.eqbs : List V → List V → Bool
  | [], [] => true
  | a :: as, b :: bs => V.eqb a b && V.eqbs as bs
  | _, _ => false
end

def clW : Cl → Bool
  | .write _ | .call _ _ | .defer _ _ | .no => true
  | _ => false
def clA : Cl → Bool
  | .alloc _ => true
  | _ => false

/-- may two operations stand in either order? x stands ahead of y in the text -/
def eitherOk (P : Program) (ops : Array Oper) (x y : Oper) : Bool :=
  x.apart ops y && !(clW (cl y.op P) && (clW (cl x.op P) || clA (cl x.op P)))

/-- 'b': what stands ahead of operation i (and masks of all) -/
def pairsOk (P : Program) (ops : Array Oper) (b : List Nat) (x : Oper) (mine : Nat) : List Oper → Nat → Bool
  | [], _ => true
  | y :: ys, j => (Nat.testBit mine j || eitherOk P ops y x) && pairsOk P ops b x mine ys (j + 1)

def clD : Cl → Bool
  | .defer _ _ => true
  | _ => false

/-- each has its number, defers nothing, and stands in an order to each ahead of it that it isn't free of -/
def allPairsOk (P : Program) (ops : Array Oper) (b : List Nat) : List Oper → List Nat → List Oper → Nat → Bool
  | x :: xs, m :: ms, done, i => !(clD (cl x.op P)) && (Nat.ble (m + 1) (2 ^ i) && (pairsOk P ops b x m done 0 && allPairsOk P ops b xs ms (done ++ [x]) (i + 1)))
  | [], [], _, _ => true
  | _, _, _, _ => false

def maskW (P : Program) : List Oper → Nat → Nat
  | [], _ => 0
  | o :: os, i => Bool.casesOn (clW (cl o.op P)) (maskW P os (i + 1)) (2 ^ i + maskW P os (i + 1))

/-- behind all of 'x' -/
def loW (x : Nat) : Nat := Bool.casesOn (Nat.beq x 0) (Nat.log2 x + 1) 0

/-- the first of 'w' that stands behind operation i, or n -/
def hiW (i w n : Nat) : List Nat → Nat → Nat
  | [], _ => n
  | m :: ms, j => Bool.casesOn (Nat.testBit w j && Nat.testBit m i) (hiW i w n ms (j + 1)) j

/-- where an operation may come: ahead of which of 'w' (or n: at the end); both the same: there is but one -/
def winOf (b : List Nat) (w n m i : Nat) : Nat × Nat :=
  match loW (m &&& w) with
  | lo => match hiW i w n b 0 with
    | hi => Bool.casesOn (Nat.beq ((w % 2 ^ hi) / 2 ^ lo) 0) (lo, hi) (hi, hi)

def windows (b : List Nat) (w n : Nat) : List Nat → Nat → List (Nat × Nat)
  | [], _ => []
  | m :: ms, i => winOf b w n m i :: windows b w n ms (i + 1)

/-- a region's windows, where its order is nobody's matter -/
def drawOk (P : Program) (ops : Array Oper) : Option (List (Nat × Nat)) :=
  match (Region.before ops).toList with
  | b => match allPairsOk P ops b ops.toList b [] 0 with
    | true => match maskW P ops.toList 0 with
      | w => some (windows b w ops.size b 0)
    | false => none

/-- a read that may come in several windows -/
structure Rd where
  f : ReadF
  a : A
  lo : Nat
  hi : Nat
  v : V

def rdAt (P : Program) (r : Rd) (s : St) : Bool := match r with
  | ⟨f, a, _, _, v⟩ => match f P (fun x => evF x a) s with
    | some u => V.eqb u v
    | none => false

def rdIn (P : Program) (r : Rd) : List (Nat × St) → Bool
  | [] => true
  | (j, s) :: ss => (Nat.ble (Nat.succ j) r.lo || (Nat.ble (Nat.succ r.hi) j || rdAt P r s)) && rdIn P r ss

def rdsIn (P : Program) (ss : List (Nat × St)) : List Rd → Bool
  | [] => true
  | r :: rs => rdIn P r ss && rdsIn P ss rs

/-- what is kept of an operation for the look behind: windows, reads -/
def keepW (c : Cl) (i : Nat) (s : St) (ws : List (Nat × St)) : List (Nat × St) := Bool.casesOn (clW c) ws ((i, s) :: ws)

def keepR (c : Cl) (P : Program) (a : A) (s : St) (w : Nat × Nat) (rs : List Rd) : List Rd := match c with
  | .read f => match w with
    | (lo, hi) => match Nat.beq lo hi with
      | true => rs
      | false => match f P (fun x => evF x a) s with
        | some v => ⟨f, a, lo, hi, v⟩ :: rs
        | none => rs
  | _ => rs

def opsDK (k : A → St → List (Nat × St) → List Rd → Two) (ws : List (Nat × St)) (rs : List Rd) (r : Two) : Two := match r with
  | some (a, s) => k a s ws rs
  | none => none

def opsDStep (P : Program) (u : Sur) (ops : List Oper) (o : Oper) (w : Nat × Nat) (i : Nat) (k : A → St → List (Nat × St) → List Rd → Two) (a : A) (s : St) (ws : List (Nat × St)) (rs : List Rd) : Two := match o with
  | ⟨dst, op, _, _, _, guard⟩ => match wantedV ops a guard with
    | true => opsDK k (keepW (cl op P) i s ws) (keepR (cl op P) P a s w rs) (op1 P u dst a s (cl op P))
    | false => opsDK k (keepW (cl op P) i s ws) rs (outV a dst s (some V.undef))

def opsDEnd (P : Program) (i : Nat) (a : A) (s : St) (ws : List (Nat × St)) (rs : List Rd) : Two := match rs with
  | [] => some (a, s)
  | rs => match rdsIn P ((i, s) :: ws) rs with
    | true => some (a, s)
    | false => none

def opsD (P : Program) (u : Sur) (ops : List Oper) : List Oper → List (Nat × Nat) → Nat → A → St → List (Nat × St) → List Rd → Two
  | [], _, i => opsDEnd P i
  | o :: rest, w :: ws, i => opsDStep P u ops o w i (opsD P u ops rest ws (Nat.succ i))
  | _ :: _, [], _ => fun _ _ _ _ => none

/-! ### functions -/

def resultsL (P : Program) (a : A) (s : St) : List ResultVar → Option (List V)
  | [] => some []
  | .tmp t :: rest => match resultsL P a s rest with
    | some l => some (a.tm t :: l)
    | none => none
  | .cell t ty :: rest => match a.tm t with
    | .ptr i off => match s.get i with
      | some (.cells l _) => match loadV P ty l off with
        | some v => match resultsL P a s rest with
          | some l => some (v :: l)
          | none => none
        | none => none
      | _ => none
    | _ => none

def oneOf : List V → V
  | [v] => v
  | l => .tup l

def entered (fn : Func) (args : List V) : Option A := match Tr.ofL args with
  | some t => some ⟨t, max fn.ntmps args.length, []⟩
  | none => none

/-- a deferred call's function, which defers nothing itself -/
def plainCall (u : Sur) (f : FuncId) (args : List V) (s : St) : Option St := match u.P.funcs[f]? with
  | some fn => match fn.body with
    | some c => match entered fn args with
      | some a => match u.e.code none c a s with
        | some (x, a, s) => match x with
          | .normal => plainEnd fn a s
          | .ret => plainEnd fn a s
          | _ => none
        | none => none
      | none => none
    | none => none
  | none => none
where
  plainEnd (fn : Func) (a : A) (s : St) : Option St := match a with
    | ⟨t, n, ds⟩ => match ds with
      | [] => match resultsL u.P ⟨t, n, []⟩ s fn.results.toList with
        | some _ => some s
        | none => none
      | _ => none

/-- deferred calls, one behind the other -/
def leaveL (u : Sur) : List D → St → Option St
  | [], s => some s
  | .mark r :: ds, s => match s.get r with
    | some (.marks true) => match s.put r (some (.marks false)) with
      | some s' => leaveL u ds s'
      | none => none
    | _ => none
  | .call f args :: ds, s => match u.K f with
    | some (true, g) => match g args s with
      | some (_, s') => leaveL u ds s'
      | none => none
    | some (false, _) => none
    | none => match plainCall u f args s with
      | some s' => leaveL u ds s'
      | none => none

def leave (u : Sur) (fn : Func) (a : A) (s : St) : Option (V × St) := match a with
  | ⟨t, n, ds⟩ => match leaveL u ds s with
    | some s' => match resultsL u.P ⟨t, n, []⟩ s' fn.results.toList with
      | some l => some (oneOf l, s')
      | none => none
    | none => none

def setTs (n : Nat) : List Tmp → List V → Tr V → Option (Tr V)
  | t :: ts, v :: vs, l => match setT l n t v with
    | some l => setTs n ts vs l
    | none => none
  | [], [], l => some l
  | _, _, _ => none

def getLp (s : St) (l : Nat) : Option Lp := match s.get l with
  | some (.loop r) => some r
  | _ => none

def jumpOf : X → Option Code
  | .normal => none
  | .ret => some .ret
  | .exit id => some (.exit id)
  | .goto t => some (.goto t)

def endRound (l : Nat) (r : Lp) (jump : Option Code) (s : St) : Option (V × St) :=
  wWith (.bool jump.isNone) (s.put l (some (.loop { r with state := if jump.isNone then .ready else .done, pending := jump })))

/-! ### statements -/

abbrev CodeF := Sur → A → St → Out

def cEnd (x : X) : CodeF := fun _ a s => some (x, a, s)
def cNo : CodeF := fun _ _ _ => none
def outN (r : Two) : Out := match r with
  | some (a, s) => some (.normal, a, s)
  | none => none
def cRegL (ops : List Oper) : CodeF := fun u a s => match u with
  | ⟨P, K, e, r⟩ => outN (opsL P ⟨P, K, e, r⟩ ops ops a s)
def cRegD (ops : Array Oper) : CodeF := fun u a s => match u with
  | ⟨P, K, e, r⟩ => match drawOk P ops with
    | some ws => outN (opsD P ⟨P, K, e, r⟩ ops.toList ops.toList ws 0 a s [] [])
    | none => none
def cRegion (ops : Array Oper) (draw : Bool) : CodeF := fun u a s => Bool.casesOn draw
  (cRegL ops.toList u a s) (cRegD ops u a s)
/-- on, if it went on; else as it was left -/
def thenC (k : A → St → Out) (r : Out) : Out := match r with
  | some (x, a, s) => match x with
    | .normal => k a s
    | .exit id => some (.exit id, a, s)
    | .goto l => some (.goto l, a, s)
    | .ret => some (.ret, a, s)
  | none => none
def run1 (u : Sur) (c : Code) (a : A) (s : St) : Out := match u with
  | ⟨_, _, e, r⟩ => e.code r c a s
def cSeq (x y : Code) : CodeF := fun u a s => thenC (run1 u y) (run1 u x a s)
def cCond (c : Operand) (x y : Code) : CodeF := fun u a s => match evF c a with
  | some (.bool b) => Bool.casesOn b (run1 u y a s) (run1 u x a s)
  | _ => none
def outB (id : Nat) (r : Out) : Out := match r with
  | some (x, a, s) => match x with
    | .normal => some (.normal, a, s)
    | .exit id' => Bool.casesOn (Nat.beq id' id) (some (.exit id', a, s)) (some (.normal, a, s))
    | .goto l => some (.goto l, a, s)
    | .ret => some (.ret, a, s)
  | none => none
def cBlock (id : Nat) (c : Code) : CodeF := fun u a s => outB id (run1 u c a s)
def cLoop (c : Code) : CodeF := fun u a s => thenC (run1 u (.loop c)) (run1 u c a s)
def outS (r : Out) : Out := match r with
  | some (x, a, s) => match x with
    | .normal => some (.normal, a, s)
    | .exit id => some (.exit id, a, s)
    | .goto _ => none
    | .ret => some (.ret, a, s)
  | none => none
def cScope (c : Code) : CodeF := fun u a s => outS (run1 u c a s)

/-- behind a range over a function -/
def cAfter (u : Sur) (l : Nat) (a : A) (s : St) : Out :=
  match getLp s l with
  | some r => match r.state with
    | .busy => none
    | _ => match s.put l (some (.loop { r with state := .exhausted })) with
      | some s' => match r.pending with
        | none => some (.normal, a, s')
        | some j => run1 u j a s'
      | none => none
  | none => none

def cRange1 (u : Sur) (g : FuncId) (first cap : List V) (a : A) (s : Option (Nat × St)) : Out := match s with
  | some (l, s) => match u.K g with
    | some _ => none
    | none => match u.e.call g (first ++ (.yld l :: cap)) s with
      | some (_, s) => cAfter u l a s
      | none => none
  | none => none

def cRange (f : Operand) (params : Array Tmp) (assign body : Code) : CodeF := fun u a s => match evF f a with
  | some (.fn g first cap) => match a with
    | ⟨t, n, ds⟩ => match u.rnd with
      | some l₀ => match getLp s l₀ with
        | some r₀ => cRange1 u g first cap ⟨t, n, ds⟩ (s.new (.loop ⟨.ready, none, t, n, params.toList, assign, body, r₀.defers⟩))
        | none => none
      | none => match s.new (.marks true) with
        | some (m, s) => cRange1 u g first cap ⟨t, n, .mark m :: ds⟩ (s.new (.loop ⟨.ready, none, t, n, params.toList, assign, body, m⟩))
        | none => none
  | _ => none

def codeF : Code → CodeF
  | .skip => cEnd .normal
  | .label _ => cEnd .normal
  | .exit id => cEnd (.exit id)
  | .goto l => cEnd (.goto l)
  | .ret => cEnd .ret
  | .refuse _ => cNo
  | .region _ ops draw => cRegion ops draw
  | .seq x y => cSeq x y
  | .cond c x y => cCond c x y
  | .block id c => cBlock id c
  | .loop c => cLoop c
  | .scope c => cScope c
  | .rangeFunc f params assign body => cRange f params assign body

def callEnd (u : Sur) (fn : Func) (r : Out) : Option (V × St) := match r with
  | some (x, a, s) => match x with
    | .normal => leave u fn a s
    | .ret => leave u fn a s
    | _ => none
  | none => none

def callBody (u : Sur) (fn : Func) (args : List V) (s : St) (c : Code) : Option (V × St) := match entered fn args with
  | some a => callEnd u fn (u.e.code none c a s)
  | none => none

def callF (u : Sur) (f : FuncId) (args : List V) (s : St) : Option (V × St) := match u.P.funcs[f]? with
  | some fn => match fn.body with
    | some c => callBody u fn args s c
    | none => none
  | none => none

def roundEnd (l : Nat) (r : Out) : Option (V × St) := match r with
  | some (x, _, s) => match getLp s l with
    | some r => endRound l r (jumpOf x) s
    | none => none
  | none => none

def roundBody (u : Sur) (l : Nat) (body : Code) (a : A) (s : St) : Option (V × St) := match getLp s l with
  | some r => match r.state with
    | .ready => match s.put l (some (.loop { r with state := .busy })) with
      | some s => roundEnd l (u.e.code (some l) body a s)
      | none => none
    | _ => none
  | none => none

def roundF (u : Sur) (l : Nat) (args : List V) (s : St) : Option (V × St) := match getLp s l with
  | some r => match setTs r.size r.params args r.tmps with
    | some m => match u.e.code (some l) r.assign ⟨m, r.size, []⟩ s with
      | some (x, a, s) => match x with
        | .normal => roundBody u l r.body a s
        | _ => none
      | none => none
    | none => none
  | none => none

/-- one level -/
def level (P : Program) (K : Known) (e : Ev) : Ev where
  code rnd c a s := codeF c ⟨P, K, e, rnd⟩ a s
  call f args s := callF ⟨P, K, e, none⟩ f args s
  round l args s := roundF ⟨P, K, e, none⟩ l args s

def bot : Ev := ⟨fun _ _ _ _ => none, fun _ _ _ => none, fun _ _ _ => none⟩

def evN (P : Program) (K : Known) (n : Nat) : Ev := Nat.rec bot (fun _ e => level P K e) n

def St.empty : St := ⟨.e, 0⟩

end Go.AM
