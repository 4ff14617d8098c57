/- A small interpreter of the model's code over an abstract memory: its words. -/
import Derived.Calls
import GoSem.Core.Layout
import GoSem.Op.Equal
set_option linter.unusedVariables false
set_option linter.unusedSimpArgs false
set_option linter.unusedSectionVars false
namespace Go.Ev

/-- A row's name: a number in bijective binary, the lowest digit first. -/
abbrev Id := List Bool

/-- Abstract values. 'str n l': l bytes, the lowest one first in n. 'coin': some truth; 'opq i': the i-th value that came in and is not looked into; 'nul k': a nil (0 pointer, 1 slice, 2 map, 3 function, 4 interface). -/
inductive AV where
  | int (k : IntKind) (n : Int)
  | bool (b : Bool)
  | ptr (r : Id) (off : Nat)
  | slc (r : Id) (off len sz : Nat) (cap : Option Nat)
  | str (n len : Nat)
  | agg (l : List AV)
  | nul (k : Nat)
  | map (r : Id)
  | fn (f : Nat) (first caps : List AV)
  | tup (l : List AV)
  | iface (t : Nat) (v : AV)
  | coin
  | opq (i : Nat)
  deriving Inhabited, Repr

/-- A trie. -/
inductive Tr (α : Type) where
  | nil
  | node (v : Option α) (l r : Tr α)
  deriving Inhabited

noncomputable section

def inc (r : Id) : Id := List.rec [false] (fun b l ih => Bool.rec (true :: l) (false :: ih) b) r
def pth (n : Nat) : Id := Nat.rec [] (fun _ r => inc r) n

def Tr.get {α : Type} (t : Tr α) : Id → Option α :=
  Tr.rec (motive := fun _ => Id → Option α) (fun _ => none) (fun v _ _ gl gr k => List.casesOn k v (fun b k => Bool.rec (gl k) (gr k) b)) t
def Tr.sub1 {α : Type} (t : Tr α) : Tr α := Tr.casesOn t .nil (fun _ l _ => l)
def Tr.sub2 {α : Type} (t : Tr α) : Tr α := Tr.casesOn t .nil (fun _ _ r => r)
def Tr.val {α : Type} (t : Tr α) : Option α := Tr.casesOn t none (fun v _ _ => v)
def Tr.ins {α : Type} (x : Option α) (k : Id) : Tr α → Tr α :=
  List.rec (motive := fun _ => Tr α → Tr α) (fun t => Tr.casesOn t (.node x .nil .nil) (fun _ l r => .node x l r))
    (fun b _ ih t => Bool.rec (Tr.casesOn t (.node none (ih .nil) .nil) (fun v l r => .node v (ih l) r)) (Tr.casesOn t (.node none .nil (ih .nil)) (fun v l r => .node v l (ih r))) b) k
def Tr.set {α : Type} (t : Tr α) (k : Id) (x : α) : Tr α := Tr.ins (some x) k t
def Tr.del {α : Type} (t : Tr α) (k : Id) : Tr α := Tr.ins none k t

/-- What stands in the abstract memory: a row of cells ('ro': only read), a map, an iterator over a map. -/
inductive Ob where
  | row (ro : Bool) (cells : List AV)
  | mp (es : List (AV × AV × Nat)) (clock : Nat)
  | mit (m : Option Id) (since : Nat) (seen : List Nat) (last : Nat)
  deriving Inhabited, Repr

structure Hp where
  o : Tr Ob
  next : Id
  deriving Inhabited

def Hp.get (h : Hp) (r : Id) : Option Ob := h.o.get r
def Hp.put (h : Hp) (r : Id) (x : Ob) : Hp := ⟨h.o.set r x, h.next⟩
def Hp.del (h : Hp) (r : Id) : Hp := ⟨h.o.del r, h.next⟩
def Hp.new (h : Hp) (x : Ob) : Hp := ⟨h.o.set h.next x, inc h.next⟩

/-- Bytes as a number. -/
def enc (l : List UInt8) : Nat := List.rec 0 (fun b _ r => Nat.add b.toNat (Nat.mul 256 r)) l
def strOf (b : ByteArray) : AV := .str (enc b.data.toList) b.data.toList.length

/-- A constant's value. -/
def oneOf (v : Value) : Option AV := match v with
  | .bool b => some (.bool b)
  | .int k n => some (.int k n)
  | .string s => some (strOf s)
  | .pointer none => some (.nul 0)
  | .slice none 0 0 => some (.nul 1)
  | .map none => some (.nul 2)
  | .nilFunc => some (.nul 3)
  | .nilIface => some (.nul 4)
  | _ => none
def flatOf (l : List Value) : Option (List AV) := List.rec (some []) (fun v _ r => Option.rec none (fun a => Option.rec none (fun r => some (a :: r)) r) (oneOf v)) l
def ofValue (v : Value) : Option AV := match v with
  | .agg ⟨l⟩ => (match flatOf l with | some l => some (.agg l) | none => none)
  | .tuple ⟨[]⟩ => some (.tup [])
  | v => oneOf v

/-- What a value is, constructor by constructor (closed words: the kernel copies nothing). -/
def asInt (x : AV) : Option (IntKind × Int) :=
  AV.rec (motive_1 := fun _ => Option (IntKind × Int)) (motive_2 := fun _ => Unit) (fun a b => some (a, b)) (fun _ => none) (fun _ _ => none) (fun _ _ _ _ _ => none) (fun _ _ => none) (fun _ _ => none) (fun _ => none) (fun _ => none) (fun _ _ _ _ _ => none) (fun _ _ => none) (fun _ _ _ => none) none (fun _ => none) () (fun _ _ _ _ => ()) x
def asBool (x : AV) : Option (Bool) :=
  AV.rec (motive_1 := fun _ => Option (Bool)) (motive_2 := fun _ => Unit) (fun _ _ => none) (fun a => some a) (fun _ _ => none) (fun _ _ _ _ _ => none) (fun _ _ => none) (fun _ _ => none) (fun _ => none) (fun _ => none) (fun _ _ _ _ _ => none) (fun _ _ => none) (fun _ _ _ => none) none (fun _ => none) () (fun _ _ _ _ => ()) x
def asPtr (x : AV) : Option (Id × Nat) :=
  AV.rec (motive_1 := fun _ => Option (Id × Nat)) (motive_2 := fun _ => Unit) (fun _ _ => none) (fun _ => none) (fun a b => some (a, b)) (fun _ _ _ _ _ => none) (fun _ _ => none) (fun _ _ => none) (fun _ => none) (fun _ => none) (fun _ _ _ _ _ => none) (fun _ _ => none) (fun _ _ _ => none) none (fun _ => none) () (fun _ _ _ _ => ()) x
def asStr (x : AV) : Option (Nat × Nat) :=
  AV.rec (motive_1 := fun _ => Option (Nat × Nat)) (motive_2 := fun _ => Unit) (fun _ _ => none) (fun _ => none) (fun _ _ => none) (fun _ _ _ _ _ => none) (fun a b => some (a, b)) (fun _ _ => none) (fun _ => none) (fun _ => none) (fun _ _ _ _ _ => none) (fun _ _ => none) (fun _ _ _ => none) none (fun _ => none) () (fun _ _ _ _ => ()) x
def asAgg (x : AV) : Option (List AV) :=
  AV.rec (motive_1 := fun _ => Option (List AV)) (motive_2 := fun _ => Unit) (fun _ _ => none) (fun _ => none) (fun _ _ => none) (fun _ _ _ _ _ => none) (fun _ _ => none) (fun a _ => some a) (fun _ => none) (fun _ => none) (fun _ _ _ _ _ => none) (fun _ _ => none) (fun _ _ _ => none) none (fun _ => none) () (fun _ _ _ _ => ()) x
def asNul (x : AV) : Option (Nat) :=
  AV.rec (motive_1 := fun _ => Option (Nat)) (motive_2 := fun _ => Unit) (fun _ _ => none) (fun _ => none) (fun _ _ => none) (fun _ _ _ _ _ => none) (fun _ _ => none) (fun _ _ => none) (fun a => some a) (fun _ => none) (fun _ _ _ _ _ => none) (fun _ _ => none) (fun _ _ _ => none) none (fun _ => none) () (fun _ _ _ _ => ()) x
def asMap (x : AV) : Option (Id) :=
  AV.rec (motive_1 := fun _ => Option (Id)) (motive_2 := fun _ => Unit) (fun _ _ => none) (fun _ => none) (fun _ _ => none) (fun _ _ _ _ _ => none) (fun _ _ => none) (fun _ _ => none) (fun _ => none) (fun a => some a) (fun _ _ _ _ _ => none) (fun _ _ => none) (fun _ _ _ => none) none (fun _ => none) () (fun _ _ _ _ => ()) x
def asFn (x : AV) : Option (Nat × List AV × List AV) :=
  AV.rec (motive_1 := fun _ => Option (Nat × List AV × List AV)) (motive_2 := fun _ => Unit) (fun _ _ => none) (fun _ => none) (fun _ _ => none) (fun _ _ _ _ _ => none) (fun _ _ => none) (fun _ _ => none) (fun _ => none) (fun _ => none) (fun a b c _ _ => some (a, b, c)) (fun _ _ => none) (fun _ _ _ => none) none (fun _ => none) () (fun _ _ _ _ => ()) x
structure Sl where
  r : Id
  off : Nat
  len : Nat
  sz : Nat
  cap : Option Nat
def asSlc (x : AV) : Option (Sl) :=
  AV.rec (motive_1 := fun _ => Option (Sl)) (motive_2 := fun _ => Unit) (fun _ _ => none) (fun _ => none) (fun _ _ => none) (fun a b c d e => some ⟨a, b, c, d, e⟩) (fun _ _ => none) (fun _ _ => none) (fun _ => none) (fun _ => none) (fun _ _ _ _ _ => none) (fun _ _ => none) (fun _ _ _ => none) none (fun _ => none) () (fun _ _ _ _ => ()) x
def asTup (x : AV) : Option (List AV) :=
  AV.rec (motive_1 := fun _ => Option (List AV)) (motive_2 := fun _ => Unit) (fun _ _ => none) (fun _ => none) (fun _ _ => none) (fun _ _ _ _ _ => none) (fun _ _ => none) (fun _ _ => none) (fun _ => none) (fun _ => none) (fun _ _ _ _ _ => none) (fun a _ => some a) (fun _ _ _ => none) none (fun _ => none) () (fun _ _ _ _ => ()) x
def asIface (x : AV) : Option (Nat × AV) :=
  AV.rec (motive_1 := fun _ => Option (Nat × AV)) (motive_2 := fun _ => Unit) (fun _ _ => none) (fun _ => none) (fun _ _ => none) (fun _ _ _ _ _ => none) (fun _ _ => none) (fun _ _ => none) (fun _ => none) (fun _ => none) (fun _ _ _ _ _ => none) (fun _ _ => none) (fun a b _ => some (a, b)) none (fun _ => none) () (fun _ _ _ _ => ()) x
def nat? (i : Int) : Option Nat := Int.rec (fun n => some n) (fun _ => none) i
def asNat (x : AV) : Option Nat := Option.rec none (fun p => nat? p.2) (asInt x)
def AV.cells (v : AV) : List AV := Option.rec [v] (fun l => l) (asAgg v)
/-- Does a value take one cell? -/
def AV.one (x : AV) : Bool :=
  AV.rec (motive_1 := fun _ => Bool) (motive_2 := fun _ => Unit) (fun _ _ => true) (fun _ => true) (fun _ _ => true) (fun _ _ _ _ _ => true) (fun _ _ => true) (fun _ _ => false) (fun _ => true) (fun _ => true) (fun _ _ _ _ _ => true) (fun _ _ => false) (fun _ _ _ => true) true (fun _ => true) () (fun _ _ _ _ => ()) x

def lenL {α : Type} (l : List α) : Nat := List.rec 0 (fun _ _ n => Nat.succ n) l
def nth {α : Type} (l : List α) : Nat → Option α :=
  List.rec (motive := fun _ => Nat → Option α) (fun _ => none) (fun a _ ih n => Nat.rec (some a) (fun m _ => ih m) n) l
/-- the first n of a list. -/
def takeL {α : Type} (n : Nat) : List α → Option (List α) :=
  Nat.rec (motive := fun _ => List α → Option (List α)) (fun _ => some [])
    (fun _ ih l => List.casesOn l none (fun a l => Option.rec none (fun r => some (a :: r)) (ih l))) n
def dropL {α : Type} (l : List α) : Nat → List α :=
  List.rec (motive := fun _ => Nat → List α) (fun _ => []) (fun a l ih n => Nat.rec (a :: l) (fun m _ => ih m) n) l
/-- n cells from a place on. -/
def cut {α : Type} (l : List α) (off n : Nat) : Option (List α) := takeL n (dropL l off)
/-- cells written over the first ones. -/
def wr0 (xs : List AV) : List AV → Option (List AV) :=
  List.rec (motive := fun _ => List AV → Option (List AV)) (fun l => some l)
    (fun x _ ih l => List.casesOn l none (fun _ l => Bool.rec none (Option.rec none (fun r => some (x :: r)) (ih l)) x.one)) xs
/-- cells written from a place on. -/
def wr (l : List AV) : Nat → List AV → Option (List AV) :=
  List.rec (motive := fun _ => Nat → List AV → Option (List AV)) (fun n xs => Nat.rec (wr0 xs []) (fun _ _ => none) n)
    (fun a l ih n xs => Nat.rec (wr0 xs (a :: l)) (fun m _ => Option.rec none (fun r => some (a :: r)) (ih m xs)) n) l
def cat {α : Type} (l m : List α) : List α := List.rec m (fun a _ r => a :: r) l
def setNth {α : Type} (x : α) (l : List α) : Nat → List α :=
  List.rec (motive := fun _ => Nat → List α) (fun _ => []) (fun a l ih n => Nat.rec (x :: l) (fun m _ => a :: ih m) n) l
def delNth {α : Type} (l : List α) : Nat → List α :=
  List.rec (motive := fun _ => Nat → List α) (fun _ => []) (fun a l ih n => Nat.rec l (fun m _ => a :: ih m) n) l

def kNo : IntKind → Nat
  | .i8 => 0 | .i16 => 1 | .i32 => 2 | .i64 => 3 | .u8 => 4 | .u16 => 5 | .u32 => 6 | .u64 => 7
def kEq (a b : IntKind) : Bool := Nat.beq (kNo a) (kNo b)

def iLt (a b : Int) : Bool := Int.casesOn a (fun a => Int.casesOn b (fun b => Nat.blt a b) (fun _ => false)) (fun a => Int.casesOn b (fun _ => true) (fun b => Nat.blt b a))
def iEq (a b : Int) : Bool := Int.casesOn a (fun a => Int.casesOn b (fun b => Nat.beq a b) (fun _ => false)) (fun a => Int.casesOn b (fun _ => false) (fun b => Nat.beq a b))

def half : IntKind → Nat
  | .i8 => 128 | .i16 => 32768 | .i32 => 2147483648 | .i64 => 9223372036854775808
  | .u8 => 256 | .u16 => 65536 | .u32 => 4294967296 | .u64 => 18446744073709551616
def wrapS (k : IntKind) (n : Int) : Int := k.wrap n
def wrap (k : IntKind) (n : Int) : Int :=
  Int.casesOn n (fun m => Bool.rec (wrapS k (.ofNat m)) (.ofNat m) (Nat.blt m (half k))) (fun m => Bool.rec (wrapS k (.negSucc m)) (Bool.rec (wrapS k (.negSucc m)) (.negSucc m) (Nat.blt m (half k))) k.signed)

def bitsN (op : BinOp) : Nat → Nat → Nat := match op with
  | .and => Nat.land
  | .or => Nat.lor
  | _ => Nat.xor
/-- a number's bits. -/
def low (k : IntKind) (x : Int) : Nat :=
  Int.casesOn x (fun m => Bool.rec (BitVec.ofInt k.bits (.ofNat m)).toNat m (Nat.blt m (half k))) (fun m => (BitVec.ofInt k.bits (.negSucc m)).toNat)
def bits (op : BinOp) (k : IntKind) (x y : Int) : AV := .int k (wrap k (Int.ofNat (bitsN op (low k x) (low k y))))

abbrev I2 := IntKind → Int → Int → Option AV
def iAdd : I2 := fun k x y => some (.int k (wrap k (Int.add x y)))
def iSub : I2 := fun k x y => some (.int k (wrap k (Int.sub x y)))
def iMul : I2 := fun k x y => some (.int k (wrap k (Int.mul x y)))
def iQuo : I2 := fun k x y => Bool.rec (some (.int k (wrap k (Int.tdiv x y)))) none (iEq y 0)
def iRem : I2 := fun k x y => Bool.rec (some (.int k (Int.tmod x y))) none (iEq y 0)
def iEql : I2 := fun _ x y => some (.bool (iEq x y))
def iNeq : I2 := fun _ x y => some (.bool (not (iEq x y)))
def iLss : I2 := fun _ x y => some (.bool (iLt x y))
def iLeq : I2 := fun _ x y => some (.bool (not (iLt y x)))
def iGtr : I2 := fun _ x y => some (.bool (iLt y x))
def iGeq : I2 := fun _ x y => some (.bool (not (iLt x y)))
def iBits (op : BinOp) : I2 := fun k x y => some (bits op k x y)

/-- bytes: the i-th one, a part. -/
def byteAt (n i : Nat) : Nat := Nat.mod (Nat.shiftRight n (Nat.mul 8 i)) 256
def subStr (n l h : Nat) : AV := .str (Nat.mod (Nat.shiftRight n (Nat.mul 8 l)) (Nat.pow 256 (Nat.sub h l))) (Nat.sub h l)
def sEq (n l m k : Nat) : Bool := Bool.rec false (Nat.beq n m) (Nat.beq l k)
/-- is the first one less? l, k: how many bytes. -/
def sLt (l : Nat) : Nat → Nat → Nat → Bool :=
  Nat.rec (fun k _ _ => Nat.rec false (fun _ _ => true) k)
    (fun _ ih k n m => Nat.rec false (fun k _ => Bool.rec (Bool.rec false (ih k (Nat.div n 256) (Nat.div m 256)) (Nat.beq (Nat.mod n 256) (Nat.mod m 256))) true (Nat.blt (Nat.mod n 256) (Nat.mod m 256))) k) l

abbrev S2 := Nat → Nat → Nat → Nat → Option AV
def sAdd : S2 := fun n l m k => Bool.rec none (some (.str (Nat.add n (Nat.mul (Nat.pow 256 l) m)) (Nat.add l k))) (Nat.blt (Nat.add l k) 1099511627776)
def sEql : S2 := fun n l m k => some (.bool (sEq n l m k))
def sNeq : S2 := fun n l m k => some (.bool (not (sEq n l m k)))
def sLss : S2 := fun n l m k => some (.bool (sLt l k n m))
def sLeq : S2 := fun n l m k => some (.bool (not (sLt k l m n)))
def sGtr : S2 := fun n l m k => some (.bool (sLt k l m n))
def sGeq : S2 := fun n l m k => some (.bool (not (sLt l k n m)))
def sNo : S2 := fun _ _ _ _ => none

def idEq (r s : Id) : Bool := List.rec (motive := fun _ => Id → Bool) (fun s => List.casesOn s true (fun _ _ => false))
  (fun a _ ih s => List.casesOn s false (fun b s => Bool.rec (Bool.rec (ih s) false b) (Bool.rec false (ih s) b) a)) r s

def eqInt (k : IntKind) (a : Int) (y : AV) : Option Bool := Option.rec none (fun q => Bool.rec none (some (iEq a q.2)) (kEq k q.1)) (asInt y)
def eqBool (a : Bool) (y : AV) : Option Bool := Option.rec none (fun b => some (Bool.rec (not b) b a)) (asBool y)
def eqStr (n l : Nat) (y : AV) : Option Bool := Option.rec none (fun q => some (sEq n l q.1 q.2)) (asStr y)
/-- equality of numbers, truths, texts. -/
def plainEq (x y : AV) : Option Bool :=
  Option.rec (Option.rec (Option.rec none (fun a => eqBool a y) (asBool x)) (fun p => eqStr p.1 p.2 y) (asStr x)) (fun p => eqInt p.1 p.2 y) (asInt x)
def aggEq (l : List AV) : List AV → Option Bool :=
  List.rec (motive := fun _ => List AV → Option Bool) (fun m => List.casesOn m (some true) (fun _ _ => none))
    (fun a _ ih m => List.casesOn m none (fun b m => Option.rec none (fun c => Option.rec none (fun d => some (Bool.rec false d c)) (ih m)) (plainEq a b))) l
/-- is it the nil of this kind? not at other things. -/
def nulIs (k : Nat) (y : AV) : Option Bool := Option.rec none (fun j => Bool.rec none (some true) (Nat.beq k j)) (asNul y)
def eqPtr (r : Id) (o : Nat) (y : AV) : Option Bool :=
  Option.rec (Option.rec none (fun _ => some false) (nulIs 0 y)) (fun q => Bool.rec none (some (Nat.beq o q.2)) (idEq r q.1)) (asPtr y)
def isO {α : Type} (x : Option α) : Bool := Option.rec false (fun _ => true) x
/-- x against y, one of which is the nil of a kind; 'c': two nils may be held against each other. -/
def eqNil (k : Nat) (c : Bool) (is : AV → Bool) (x y : AV) : Option Bool :=
  Option.rec (Bool.rec none (Option.rec none (fun _ => some false) (nulIs k y)) (is x)) (fun _ => Option.rec (Bool.rec none (some false) (is y)) (fun _ => Bool.rec none (some true) c) (nulIs k y)) (nulIs k x)
/-- What two things are that are held against each other. -/
inductive EqT where
  | num | bl | ptr | slc | map | fn | ifc (c : Bool) | flat (ks : List Nat)
def kindOk (k : Nat) (x : AV) : Bool := Nat.rec (isO (asInt x)) (fun k _ => Nat.rec (isO (asStr x)) (fun _ _ => isO (asBool x)) k) k
def kindsOk (ks : List Nat) : List AV → Bool :=
  List.rec (motive := fun _ => List AV → Bool) (fun l => List.rec true (fun _ _ _ => false) l) (fun k _ ih l => List.rec false (fun a l _ => Bool.rec false (ih l) (kindOk k a)) l) ks
def eqFlat (ks : List Nat) (x y : AV) : Option Bool :=
  Option.rec none (fun l => Option.rec none (fun m => Bool.rec none (aggEq l m) (kindsOk ks l)) (asAgg y)) (asAgg x)
def eqNum (x y : AV) : Option Bool := Option.rec (Option.rec none (fun p => eqStr p.1 p.2 y) (asStr x)) (fun p => eqInt p.1 p.2 y) (asInt x)
def eqP (x y : AV) : Option Bool := Option.rec (eqNil 0 true (fun x => isO (asPtr x)) x y) (fun p => eqPtr p.1 p.2 y) (asPtr x)
def eqAt (e : EqT) : AV → AV → Option Bool :=
  EqT.rec eqNum (fun x y => Option.rec none (fun a => eqBool a y) (asBool x)) eqP (eqNil 1 true fun x => isO (asSlc x)) (eqNil 2 true fun x => isO (asMap x)) (eqNil 3 true fun x => isO (asFn x))
    (fun c => eqNil 4 c fun x => isO (asIface x)) (fun ks => eqFlat ks) e
def eqlF (e : EqT) (x y : AV) : Option AV := Option.rec none (fun b => some (.bool b)) (eqAt e x y)
def neqF (e : EqT) (x y : AV) : Option AV := Option.rec none (fun b => some (.bool (not b))) (eqAt e x y)

abbrev P1 := AV → Option AV
abbrev P2 := AV → AV → Option AV

def i2F (f : I2) (k : IntKind) (a : Int) (y : AV) : Option AV := Option.rec none (fun q => Bool.rec none (f k a q.2) (kEq k q.1)) (asInt y)
def s2F (f : S2) (n l : Nat) (y : AV) : Option AV := Option.rec none (fun q => f n l q.1 q.2) (asStr y)
def binF (i : I2) (s : S2) : P2 := fun x y => Option.rec (Option.rec none (fun p => s2F s p.1 p.2 y) (asStr x)) (fun p => i2F i p.1 p.2 y) (asInt x)
def shlI (k : IntKind) (a : Int) (b : Nat) : Int := wrap k (Int.mul a (Int.ofNat (Nat.pow 2 (Nat.min b k.bits))))
def shrI (k : IntKind) (a : Int) (b : Nat) : Int := Int.fdiv a (Int.ofNat (Nat.pow 2 (Nat.min b k.bits)))
def shF (f : IntKind → Int → Nat → Int) : P2 := fun x y => Option.rec none (fun p => Option.rec none (fun b => some (.int p.1 (f p.1 p.2 b))) (asNat y)) (asInt x)
def notF : P1 := fun x => Option.rec none (fun b => some (.bool (not b))) (asBool x)
def negF : P1 := fun x => Option.rec none (fun p => some (.int p.1 (wrap p.1 (Int.sub 0 p.2)))) (asInt x)
def cplF : P1 := fun x => Option.rec none (fun p => some (bits .xor p.1 (if p.1.signed then -1 else p.1.max) p.2)) (asInt x)
def pickF (c a b : AV) : Option AV := Option.rec none (fun c => some (Bool.rec b a c)) (asBool c)
def rowO (x : Ob) : Option (List AV) := Ob.rec (fun _ cs => some cs) (fun _ _ => none) (fun _ _ _ _ => none) x
def mrowO (x : Ob) : Option (List AV) := Ob.rec (fun ro cs => Bool.rec (some cs) none ro) (fun _ _ => none) (fun _ _ _ _ => none) x
def mapO (x : Ob) : Option (List (AV × AV × Nat) × Nat) := Ob.rec (fun _ _ => none) (fun es c => some (es, c)) (fun _ _ _ _ => none) x
def row? (x : Option Ob) : Option (List AV) := Option.rec none (fun x => rowO x) x
def load1F (h : Hp) : P1 := fun x => Option.rec none (fun p => Option.rec none (fun cs => nth cs p.2) (row? (h.get p.1))) (asPtr x)
def aggO (x : Option (List AV)) : Option AV := Option.rec none (fun l => some (.agg l)) x
def loadNF (n : Nat) (h : Hp) : P1 := fun x => Option.rec none (fun p => Option.rec none (fun cs => aggO (cut cs p.2 n)) (row? (h.get p.1))) (asPtr x)
def mrow? (x : Option Ob) : Option (List AV) := Option.rec none (fun x => mrowO x) x
def putR (h : Hp) (r : Id) (x : Option (List AV)) : Option Hp := Option.rec none (fun cs => some (h.put r (.row false cs))) x
def storeH (n : Nat) (h : Hp) (r : Id) (off : Nat) (v : AV) : Option Hp :=
  Option.rec none (fun cs => Bool.rec none (putR h r (wr cs off v.cells)) (Nat.beq (lenL v.cells) n)) (mrow? (h.get r))
def done (x : Option Hp) : Option (AV × Hp) := Option.rec none (fun h => some (.tup [], h)) x

abbrev FE := List AV → Hp → Option (AV × Hp)
def list1 (vs : List AV) : Option AV := List.rec none (fun a l _ => List.rec (some a) (fun _ _ _ => none) l) vs
def list2 (vs : List AV) : Option (AV × AV) := List.rec none (fun a l _ => List.rec none (fun b l _ => List.rec (some (a, b)) (fun _ _ _ => none) l) l) vs
def storeF (n : Nat) : FE := fun vs h => Option.rec none (fun q => Option.rec none (fun p => done (storeH n h p.1 p.2 q.2)) (asPtr q.1)) (list2 vs)
def fieldAddrF (d : Nat) : P1 := fun x => Option.rec none (fun p => some (.ptr p.1 (Nat.add p.2 d))) (asPtr x)
def nilCheckF : P1 := fun x => Option.rec (Option.rec none (fun _ => some x) (asFn x)) (fun _ => some x) (asPtr x)
/-- an index into n things of sz cells. -/
def idxF (r : Id) (off n sz : Nat) (i : AV) : Option AV := Option.rec none (fun m => Bool.rec none (some (.ptr r (Nat.add off (Nat.mul m sz)))) (Nat.blt m n)) (asNat i)
def indexArrF (n sz : Nat) : P2 := fun x i => Option.rec none (fun p => idxF p.1 p.2 n sz i) (asPtr x)
def indexSlcF (sz : Nat) : P2 := fun x i => Option.rec none (fun s => Bool.rec none (idxF s.r s.off s.len sz i) (Nat.beq sz s.sz)) (asSlc x)
def partA (agg : Bool) (n : Nat) (cs : List AV) (off : Nat) : Option AV := Bool.rec (nth cs off) (aggO (cut cs off n)) agg
def elemF (n : Nat) (agg : Bool) (sz : Nat) : P2 := fun x i => Option.rec none (fun cs => Option.rec none (fun m => Bool.rec none (partA agg sz cs (Nat.mul m sz)) (Nat.blt m n)) (asNat i)) (asAgg x)
def chF : P2 := fun x i => Option.rec none (fun s => Option.rec none (fun m => Bool.rec none (some (.int .u8 (Int.ofNat (byteAt s.1 m)))) (Nat.blt m s.2)) (asNat i)) (asStr x)
def extractF (i : Nat) : P1 := fun x => Option.rec none (fun l => nth l i) (asTup x)
def fieldF (agg : Bool) (n off : Nat) : P1 := fun x => Option.rec none (fun cs => partA agg n cs off) (asAgg x)

/-- new memory: what it holds, and what is told of it. -/
structure Nw where
  o : Ob
  v : Id → AV
abbrev FA := List AV → Option Nw
def allocF (z : AV) : FA := fun _ => some ⟨.row false z.cells, fun r => .ptr r 0⟩
def boxF : FA := fun vs => Option.rec none (fun v => some ⟨.row false v.cells, fun r => .ptr r 0⟩) (list1 vs)
/-- parts laid into cells: each part's offset and size. -/
def fill (ps : List (Nat × Nat)) : List AV → List AV → Option (List AV) :=
  List.rec (motive := fun _ => List AV → List AV → Option (List AV)) (fun vs cs => List.casesOn vs (some cs) (fun _ _ => none))
    (fun p _ ih vs cs => List.casesOn vs none (fun v vs => Bool.rec none (Option.rec none (fun cs => ih vs cs) (wr cs p.1 v.cells)) (Nat.beq (lenL v.cells) p.2))) ps
def buildF (z : AV) (ps : List (Nat × Nat)) : List AV → Option AV := fun vs => aggO (fill ps vs z.cells)
def rep (z : List AV) (n : Nat) : List AV := Nat.rec [] (fun _ r => cat z r) n
def buildSliceF (n sz : Nat) (z : AV) (ps : List (Nat × Nat)) : FA := fun vs =>
  Option.rec none (fun cs => some ⟨.row false cs, fun r => .slc r 0 n sz (some n)⟩) (fill ps vs (rep z.cells n))
def makeSliceN (l c sz : Nat) (z : AV) : Option Nw := Bool.rec none (Bool.rec none (some ⟨.row false (rep z.cells c), fun r => .slc r 0 l sz (some c)⟩) (Nat.blt c 1048576)) (Nat.ble l c)
def makeSliceF (sz : Nat) (z : AV) : FA := fun vs => Option.rec none (fun q => Option.rec none (fun l => Option.rec none (fun c => makeSliceN l c sz z) (asNat q.2)) (asNat q.1)) (list2 vs)
/-- a number from 0 to n; d, where none is told. -/
def upto (v : Option AV) (n d : Nat) : Option Nat := Option.rec (some d) (fun v => Option.rec none (fun m => Bool.rec none (some m) (Nat.ble m n)) (asNat v)) v
def capLess (cap : Option Nat) (l : Nat) : Option Nat := Option.rec none (fun c => some (Nat.sub c l)) cap
def most (cap : Option Nat) (n : Nat) : Nat := Option.rec n (fun c => c) cap
abbrev OA := Option AV
def sliceStr (n l : Nat) (lo hi mx : OA) : Option AV := match mx with
  | none => Option.rec none (fun h => Option.rec none (fun l => some (subStr n l h)) (upto lo h 0)) (upto hi l l)
  | some _ => none
def sliceSlc (r : Id) (off n sz : Nat) (cap : Option Nat) (lo hi mx : OA) : Option AV := match mx with
  | none => Option.rec none (fun h => Option.rec none (fun l => some (.slc r (Nat.add off (Nat.mul l sz)) (Nat.sub h l) sz (capLess cap l))) (upto lo h 0)) (upto hi (most cap n) n)
  | some m => Option.rec none (fun hv => Option.rec none (fun m => Option.rec none (fun h => Option.rec none (fun l => some (.slc r (Nat.add off (Nat.mul l sz)) (Nat.sub h l) sz (some (Nat.sub m l)))) (upto lo h 0)) (upto (some hv) m 0)) (upto (some m) (most cap n) 0)) hi
def sliceNil (lo hi mx : OA) : Option AV := match mx with
  | none => Option.rec none (fun _ => Option.rec none (fun _ => some (.nul 1)) (upto lo 0 0)) (upto hi 0 0)
  | some _ => none
/-- which of low, high, max are told: the operands' list, parted. -/
def bounds (lo hi mx : Bool) (vs : List AV) : Option (OA × OA × OA) :=
  match lo, hi, mx, vs with
  | false, false, false, [] => some (none, none, none)
  | true, false, false, [l] => some (some l, none, none)
  | false, true, false, [h] => some (none, some h, none)
  | true, true, false, [l, h] => some (some l, some h, none)
  | false, true, true, [h, m] => some (none, some h, some m)
  | true, true, true, [l, h, m] => some (some l, some h, some m)
  | _, _, _, _ => none
def sliceS (x : AV) (b : OA × OA × OA) : Option AV := Option.rec none (fun p => sliceStr p.1 p.2 b.1 b.2.1 b.2.2) (asStr x)
def sliceL (sz : Nat) (x : AV) (b : OA × OA × OA) : Option AV :=
  Option.rec (Option.rec none (fun _ => sliceNil b.1 b.2.1 b.2.2) (nulIs 1 x)) (fun s => Bool.rec none (sliceSlc s.r s.off s.len sz s.cap b.1 b.2.1 b.2.2) (Nat.beq sz s.sz)) (asSlc x)
def sliceF (f : AV → OA × OA × OA → Option AV) (lo hi mx : Bool) : List AV → Option AV := fun vs =>
  List.rec none (fun x r _ => Option.rec none (fun b => f x b) (bounds lo hi mx r)) vs

/-- What a map's keys are. -/
inductive KT where
  | one (k : Nat) | flat (ks : List Nat)
def keyEq (x y : AV) : Option Bool := Option.rec (plainEq x y) (fun l => Option.rec none (fun m => aggEq l m) (asAgg y)) (asAgg x)
abbrev Ent := AV × AV × Nat
/-- where a key stands. -/
def find (k : AV) (es : List Ent) : Nat → Option (Option (Nat × AV × Nat)) :=
  List.rec (motive := fun _ => Nat → Option (Option (Nat × AV × Nat))) (fun _ => some none)
    (fun e _ ih i => Option.rec none (fun b => Bool.rec (ih (Nat.succ i)) (some (some (i, e.2.1, e.2.2))) b) (keyEq k e.1)) es

def mapX (x : Option Ob) : Option (List Ent × Nat) := Option.rec none (fun x => mapO x) x
def entries (h : Hp) (m : AV) : Option (List Ent) := Option.rec (Option.rec none (fun _ => some []) (nulIs 2 m)) (fun r => Option.rec none (fun p => some p.1) (mapX (h.get r))) (asMap m)
def keyOk (kt : KT) (k : AV) : Bool := KT.rec (fun n => kindOk n k) (fun ks => Option.rec false (fun l => kindsOk ks l) (asAgg k)) kt
def withOk (ok : Bool) (v : AV) (b : Bool) : AV := Bool.rec v (.tup [v, .bool b]) ok
def lookupF (kt : KT) (z : AV) (ok : Bool) (h : Hp) : P2 := fun m k =>
  Option.rec none (fun es => Bool.rec none
    (Option.rec none (fun f => Option.rec (some (withOk ok z false)) (fun p => some (withOk ok p.2.1 true)) f) (find k es 0)) (keyOk kt k)) (entries h m)
def mapUp (h : Hp) (r : Id) (k v : AV) (es : List Ent) (c : Nat) : Option Hp :=
  Option.rec none (fun f => Option.rec (some (h.put r (.mp (cat es [(k, v, c)]) (Nat.succ c)))) (fun p => some (h.put r (.mp (setNth (k, v, p.2.2) es p.1) c))) f) (find k es 0)
def list3 (vs : List AV) : Option (AV × AV × AV) := List.rec none (fun a l _ => Option.rec none (fun p => some (a, p.1, p.2)) (list2 l)) vs
def mapUpdateF (kt : KT) : FE := fun vs h =>
  Option.rec none (fun q => Option.rec none (fun r => done (Option.rec none (fun p => Bool.rec none (mapUp h r q.2.1 q.2.2 p.1 p.2) (keyOk kt q.2.1)) (mapX (h.get r)))) (asMap q.1)) (list3 vs)
def mapEn (h : Hp) (r : Id) (k z : AV) (es : List Ent) (c : Nat) : Option (AV × Hp) :=
  Option.rec none (fun f => Option.rec (some (.tup [z, .int .i64 (Int.ofNat c)], h.put r (.mp (cat es [(k, z, c)]) (Nat.succ c))))
    (fun p => some (.tup [p.2.1, .int .i64 (Int.ofNat p.2.2)], h.put r (.mp (setNth (k, p.2.1, p.2.2) es p.1) c))) f) (find k es 0)
def mapEntryF (kt : KT) (z : AV) : FE := fun vs h =>
  Option.rec none (fun q => Option.rec none (fun r => Option.rec none (fun p => Bool.rec none (mapEn h r q.2 z p.1 p.2) (keyOk kt q.2)) (mapX (h.get r))) (asMap q.1)) (list2 vs)
/-- the entry of a stamp: its place. -/
def stamped (b : Nat) (es : List Ent) : Nat → Option (Nat × AV × AV) :=
  List.rec (motive := fun _ => Nat → Option (Nat × AV × AV)) (fun _ => none) (fun e _ ih i => Bool.rec (ih (Nat.succ i)) (some (i, e.1, e.2.1)) (Nat.beq e.2.2 b)) es
def entryStoreF : FE := fun vs h =>
  Option.rec none (fun t => Option.rec none (fun r => Option.rec none (fun b => done (Option.rec none (fun p => Option.rec none (fun q => some (h.put r (.mp (setNth (q.2.1, t.2.2, b) p.1 q.1) p.2))) (stamped b p.1 0)) (mapX (h.get r)))) (asNat t.2.1)) (asMap t.1)) (list3 vs)
def makeMapF : FA := fun _ => some ⟨.mp [] 0, fun r => .map r⟩
def ifaceF (t : Nat) : P1 := fun v => some (.iface t v)
def rangeF : FE := fun vs h => Option.rec none (fun x =>
  Option.rec (Option.rec none (fun _ => some (.ptr h.next 0, h.new (.mit none 0 [] 0))) (nulIs 2 x)) (fun m => Option.rec none (fun p => some (.ptr h.next 0, h.new (.mit (some m) p.2 [] p.2))) (mapX (h.get m))) (asMap x)) (list1 vs)
def unseen (seen : List Nat) (es : List Ent) : List Ent := List.rec [] (fun e _ r => Bool.rec (e :: r) r (seen.any (Nat.beq e.2.2))) es
def nextMap (h : Hp) (r m : Id) (since : Nat) (seen : List Nat) (es : List Ent) (clock : Nat) : Option (AV × Hp) :=
  List.rec (some (.tup [.bool false], h)) (fun e l _ => List.rec (Bool.rec none (some (.tup [.bool true, e.1, e.2.1], h.put r (.mit (some m) since (cat seen [e.2.2]) clock))) (Nat.blt e.2.2 since)) (fun _ _ _ => none) l) (unseen seen es)
/-- has the ranged map an entry that was there at the last step? -/
def stays (last : Nat) (seen : List Nat) (es : List Ent) : Bool := seen.isEmpty || es.isEmpty || es.any fun e => Nat.blt e.2.2 last
structure Mi where
  m : Option Id
  since : Nat
  seen : List Nat
  last : Nat
def mitO (x : Ob) : Option Mi := Ob.rec (fun _ _ => none) (fun _ _ => none) (fun m a s l => some ⟨m, a, s, l⟩) x
def mit? (x : Option Ob) : Option Mi := Option.rec none (fun x => mitO x) x
/-- the iterator that a value leads to. -/
def iterOf (h : Hp) (x : AV) : Option (Id × Mi) := Option.rec none (fun p => Bool.rec none (Option.rec none (fun i => some (p.1, i)) (mit? (h.get p.1))) (Nat.beq p.2 0)) (asPtr x)
def nextF : FE := fun vs h => Option.rec none (fun x => Option.rec none (fun i =>
  Option.rec (some (.tup [.bool false], h)) (fun m => Option.rec none (fun p => Bool.rec none (nextMap h i.1 m i.2.since i.2.seen p.1 p.2) (stays i.2.last i.2.seen p.1)) (mapX (h.get m))) i.2.m) (iterOf h x)) (list1 vs)
def entryF (h : Hp) : P1 := fun x => Option.rec none (fun i =>
  Option.rec none (fun m => Option.rec none (fun p => Option.rec none (fun b => Bool.rec none (Option.rec none (fun q => some (.tup [q.2.1, q.2.2])) (stamped b p.1 0)) (Nat.beq p.2 i.2.last)) i.2.seen.getLast?) (mapX (h.get m))) i.2.m) (iterOf h x)
def closF (f : Nat) (n : Nat) : List AV → Option AV := fun vs => Option.rec none (fun a => some (.fn f a (dropL vs n))) (takeL n vs)

def toBytes (n : Nat) (l : Nat) : List AV := Nat.rec (motive := fun _ => Nat → List AV) (fun _ => []) (fun _ ih n => .int .u8 (Int.ofNat (Nat.mod n 256)) :: ih (Nat.div n 256)) l n
def byte? (a : AV) : Option Nat := match a with | .int k (.ofNat n) => Bool.rec none (Bool.rec none (some n) (Nat.blt n 256)) (kEq k .u8) | _ => none
def ofBytes (l : List AV) : Option Nat := List.rec (some 0) (fun a _ r => Option.rec none (fun b => Option.rec none (fun r => some (Nat.add b (Nat.mul 256 r))) r) (byte? a)) l

def convIntF (k : IntKind) : P1 := fun x => Option.rec none (fun p => some (.int k (wrap k p.2))) (asInt x)
def convStrF : P1 := fun x => Option.rec none (fun _ => some x) (asStr x)
def strBytesF : FA := fun vs => Option.rec none (fun x => Option.rec none (fun p => some ⟨.row false (toBytes p.1 p.2), fun r => .slc r 0 p.2 1 none⟩) (asStr x)) (list1 vs)
def bytesStrF (h : Hp) : P1 := fun x =>
  Option.rec (Option.rec none (fun _ => some (.str 0 0)) (nulIs 1 x)) (fun s => Bool.rec none (Bool.rec
      (Option.rec none (fun cs => Option.rec none (fun l => Option.rec none (fun b => some (.str b s.len)) (ofBytes l)) (cut cs s.off s.len)) (row? (h.get s.r))) (some (.str 0 0)) (Nat.beq s.len 0)) (Nat.beq s.sz 1)) (asSlc x)

/-- what is appended: how many, and their cells. -/
def appended (h : Hp) (sz : Nat) (x : AV) : Option (Nat × List AV) :=
  Option.rec (Option.rec (Option.rec none (fun p => Bool.rec none (some (p.2, toBytes p.1 p.2)) (Nat.beq sz 1)) (asStr x)) (fun _ => some (0, [])) (nulIs 1 x))
    (fun s => Bool.rec none (Bool.rec (Option.rec none (fun cs => Option.rec none (fun l => some (s.len, l)) (cut cs s.off (Nat.mul s.len sz))) (row? (h.get s.r))) (some (0, [])) (Nat.beq s.len 0)) (Nat.beq sz s.sz)) (asSlc x)
def appNew (sz n : Nat) (cs : List AV) (h : Hp) : Option (AV × Hp) := Bool.rec none (some (.slc h.next 0 n sz none, h.new (.row false cs))) (Nat.blt n 1048576)
/-- within the room that there surely is. -/
def appIn (r : Id) (off m sz n : Nat) (cap : Option Nat) (xs : List AV) (h : Hp) : Option (AV × Hp) :=
  Option.rec none (fun cs => Option.rec none (fun cs => some (.slc r off (Nat.add m n) sz cap, h.put r (.row false cs))) (wr cs (Nat.add off (Nat.mul m sz)) xs)) (mrow? (h.get r))
/-- a new row for sure. -/
def appOut (r : Id) (off m sz n : Nat) (xs : List AV) (h : Hp) : Option (AV × Hp) :=
  Option.rec none (fun cs => Option.rec none (fun l => appNew sz (Nat.add m n) (cat l xs) h) (cut cs off (Nat.mul m sz))) (row? (h.get r))
/-- in place, or a new row: the elder row is gone. -/
def appAny (r : Id) (off m sz n : Nat) (xs : List AV) (h : Hp) : Option (AV × Hp) :=
  Option.rec none (fun cs => Option.rec none (fun l => appNew sz (Nat.add m n) (cat l xs) (h.del r)) (cut cs off (Nat.mul m sz))) (mrow? (h.get r))
def appSlc (r : Id) (off m sz n : Nat) (cap : Option Nat) (xs : List AV) (h : Hp) : Option (AV × Hp) :=
  Option.rec (appAny r off m sz n xs h) (fun c => Bool.rec (Bool.rec (appOut r off m sz n xs h) (appNew sz n xs h) (Nat.beq m 0)) (appIn r off m sz n cap xs h) (Nat.ble (Nat.add m n) c)) cap
def appS (s : AV) (sz n : Nat) (xs : List AV) (h : Hp) : Option (AV × Hp) :=
  Option.rec (Option.rec none (fun _ => Bool.rec (appNew sz n xs h) (some (s, h)) (Nat.beq n 0)) (nulIs 1 s))
    (fun q => Bool.rec none (Bool.rec (appSlc q.r q.off q.len sz n q.cap xs h) (some (s, h)) (Nat.beq n 0)) (Nat.beq sz q.sz)) (asSlc s)
def flatL (xs : List AV) : Bool := List.rec true (fun a _ r => Bool.rec false r a.one) xs
def appendF (sz : Nat) : FE := fun vs h => Option.rec none (fun q => Option.rec none (fun p => Bool.rec none (appS q.1 sz p.1 p.2 h) (flatL p.2)) (appended h sz q.2)) (list2 vs)

def numI (n : Nat) : AV := .int .i64 (Int.ofNat n)
def lenSF : P1 := fun x => Option.rec none (fun p => some (numI p.2)) (asStr x)
def lenLF : P1 := fun x => Option.rec (Option.rec none (fun _ => some (numI 0)) (nulIs 1 x)) (fun s => some (numI s.len)) (asSlc x)
def lenAF (n : Nat) : P1 := fun _ => some (numI n)
def lenMF (h : Hp) : P1 := fun x => Option.rec none (fun es => some (numI (lenL es))) (entries h x)
def max2 (a b : AV) : Option AV := Option.rec none (fun p => Option.rec none (fun q => some (.int p.1 (Bool.rec p.2 q.2 (iLt p.2 q.2)))) (asInt b)) (asInt a)
def min2 (a b : AV) : Option AV := Option.rec none (fun p => Option.rec none (fun q => some (.int p.1 (Bool.rec p.2 q.2 (iLt q.2 p.2)))) (asInt b)) (asInt a)
def foldO (f : AV → AV → Option AV) (l : List AV) : AV → Option AV :=
  List.rec (motive := fun _ => AV → Option AV) (fun a => some a) (fun b _ ih a => Option.rec none (fun c => ih c) (f a b)) l
def mostF (f : AV → AV → Option AV) : List AV → Option AV := fun vs => List.rec none (fun a l _ => Option.rec none (fun _ => foldO f l a) (asInt a)) vs
def deleteF (kt : KT) : FE := fun vs h => Option.rec none (fun t => Bool.rec none
  (Option.rec (Option.rec none (fun _ => some (.tup [], h)) (nulIs 2 t.1)) (fun r => done (Option.rec none (fun p =>
    Option.rec none (fun f => Option.rec (some (h.put r (.mp p.1 p.2))) (fun q => some (h.put r (.mp (delNth p.1 q.1) p.2))) f) (find t.2 p.1 0)) (mapX (h.get r)))) (asMap t.1)) (keyOk kt t.2)) (list2 vs)
def clearF (sz : Nat) (z : AV) : FE := fun vs h => Option.rec none (fun x =>
  Option.rec (Option.rec none (fun _ => some (.tup [], h)) (nulIs 1 x)) (fun s => Bool.rec none (Bool.rec (done (Option.rec none (fun cs => putR h s.r (wr cs s.off (rep z.cells s.len))) (mrow? (h.get s.r)))) (some (.tup [], h)) (Nat.beq s.len 0)) (Nat.beq sz s.sz)) (asSlc x)) (list1 vs)

/-- What operations do, as data: the kernel looks each up once. -/
inductive Fn1 where
  | mov | nt | neg | cpl | fa (d : Nat) | nck | ext (i : Nat) | fld (agg : Bool) (n off : Nat) | cint (k : IntKind) | cstr | ifc (t : Nat) | lenS | lenL | lenA (n : Nat)
inductive Fn2 where
  | add | sub | mul | quo | rem | eql (e : EqT) | neq (e : EqT) | lss | leq | gtr | geq | and | or | xor | shl | shr
  | arr (n sz : Nat) | slc (sz : Nat) | elem (n : Nat) (agg : Bool) (sz : Nat) | ch
inductive FnN where
  | build (z : AV) (ps : List (Nat × Nat)) | sliceS (lo hi mx : Bool) | sliceL (sz : Nat) (lo hi mx : Bool) | clos (f n : Nat) | max | min
inductive Fr1 where
  | ld1 | ldN (n : Nat) | bstr | lenM | entry
inductive Fal where
  | alloc (z : AV) | box | bslice (n sz : Nat) (z : AV) (ps : List (Nat × Nat)) | mslice (sz : Nat) (z : AV) | mmap | sbytes
inductive Fef where
  | store (n : Nat) | mup (k : KT) | men (k : KT) (z : AV) | ens | range | next | app (sz : Nat) | del (k : KT) | clr (sz : Nat) (z : AV)

def k1 (f : Fn1) : P1 := Fn1.rec some notF negF cplF (fun d => fieldAddrF d) nilCheckF (fun i => extractF i) (fun a n o => fieldF a n o) (fun k => convIntF k) convStrF (fun t => ifaceF t) lenSF lenLF (fun n => lenAF n) f
def k2 (f : Fn2) : P2 := Fn2.rec (binF iAdd sAdd) (binF iSub sNo) (binF iMul sNo) (binF iQuo sNo) (binF iRem sNo) (fun e => eqlF e) (fun e => neqF e) (binF iLss sLss) (binF iLeq sLeq) (binF iGtr sGtr) (binF iGeq sGeq)
  (binF (iBits .and) sNo) (binF (iBits .or) sNo) (binF (iBits .xor) sNo) (shF shlI) (shF shrI) (fun n sz => indexArrF n sz) (fun sz => indexSlcF sz) (fun n a sz => elemF n a sz) chF f
def runN (f : FnN) : List AV → Option AV := FnN.rec (fun z ps => buildF z ps) (fun lo hi mx => sliceF sliceS lo hi mx) (fun sz lo hi mx => sliceF (sliceL sz) lo hi mx) (fun f n => closF f n) (mostF max2) (mostF min2) f
def runR1 (f : Fr1) : Hp → P1 := Fr1.rec load1F (fun n => loadNF n) bytesStrF lenMF entryF f
def runAl (f : Fal) : FA := Fal.rec (fun z => allocF z) boxF (fun n sz z ps => buildSliceF n sz z ps) (fun sz z => makeSliceF sz z) makeMapF strBytesF f
def runEf (f : Fef) : FE := Fef.rec (fun n => storeF n) (fun k => mapUpdateF k) (fun k z => mapEntryF k z) entryStoreF rangeF nextF (fun sz => appendF sz) (fun k => deleteF k) (fun sz z => clearF sz z) f

/-- Where an operand stands: among what the region has told so far, in a slot, it is a constant, a variable's address, a function. -/
inductive Rdr where
  | loc (n : Nat) | slot (r : Id) | con (v : Option AV) | gp (r : Id) | fp (f : Nat)
/-- What becomes of a told value: nothing, it is told on, it is laid into a slot, too. -/
inductive Kp where
  | drop | push | set (r : Id)
inductive Stp where
  | p1 (f : Fn1) (x : Rdr) (k : Kp)
  | p2 (f : Fn2) (x y : Rdr) (k : Kp)
  | p3 (x y z : Rdr) (k : Kp)
  | pn (f : FnN) (l : List Rdr) (k : Kp)
  | r1 (f : Fr1) (x : Rdr) (k : Kp)
  | r2 (kt : KT) (z : AV) (ok : Bool) (x y : Rdr) (k : Kp)
  | al (f : Fal) (l : List Rdr) (k : Kp)
  | ef (f : Fef) (l : List Rdr) (k : Kp)
  | cl (l : List Rdr) (k : Kp)
  | no
inductive Ops where
  | nil
  | cons (s : Stp) (r : Ops)
  | gd (g : Rdr) (w : Bool) (k : Kp) (s : Stp) (r : Ops)
/-- A step of a region that draws its order: its place, those that surely stand ahead of it (one bit each); what it is done by. -/
structure DStp where
  i : Nat
  anc : Nat
  g : Option (Rdr × Bool × Kp)
  s : Stp
  nw : Bool
inductive Cmd where
  | skip | ret | ext (id : Nat) | no
  | reg (o : Ops)
  | drw (n : Nat) (l : List DStp)
  | coin (k : Kp)
  | seq (a b : Cmd)
  | cond (c : Rdr) (a b : Cmd)
  | block (id : Nat) (a : Cmd)
  | loop (a : Cmd)

abbrev T := Tr AV
def rd (x : Rdr) : List AV → T → Option AV :=
  Rdr.rec (fun n loc _ => nth loc n) (fun r _ t => t.get r) (fun v _ _ => v) (fun r _ _ => some (.ptr r 0)) (fun f _ _ => some (.fn f [] [])) x
def rds (l : List Rdr) : List AV → T → Option (List AV) :=
  List.rec (fun _ _ => some []) (fun x _ ih loc t => Option.rec none (fun v => Option.rec none (fun vs => some (v :: vs)) (ih loc t)) (rd x loc t)) l

abbrev CallF := Nat → List AV → Hp → Option (AV × Hp)
def allArgs (first args caps : List AV) : List AV := List.rec (List.rec args (fun _ _ _ => cat args caps) caps) (fun _ _ _ => cat first (cat args caps)) first
def callV (call : CallF) (vs : List AV) (h : Hp) : Option (AV × Hp) :=
  List.rec none (fun f args _ => Option.rec none (fun p => call p.1 (allArgs p.2.1 args p.2.2) h) (asFn f)) vs

/-- the state in a region: what it has told so far, the slots, the memory. -/
structure S where
  loc : List AV
  t : T
  h : Hp
def kp (k : Kp) : AV → List AV → T → Hp → Option S :=
  Kp.rec (fun _ loc t h => some ⟨loc, t, h⟩) (fun v loc t h => some ⟨v :: loc, t, h⟩) (fun r v loc t h => some ⟨v :: loc, t.set r v, h⟩) k
/-- What is known of values that are not looked into. -/
structure Gam where
  g1 : Fn1 → AV → Option AV
  g2 : Fn2 → AV → AV → Option AV
def noGam : Gam := ⟨fun _ _ => none, fun _ _ _ => none⟩
def orO (x y : Option AV) : Option AV := Option.rec y (fun v => some v) x
structure Env where
  g : Gam
  call : CallF
abbrev R1 := Env → List AV → T → Hp → Option S
def runStp (s : Stp) : R1 :=
  Stp.rec (motive := fun _ => R1)
    (fun f x k e loc t h => Option.rec none (fun a => Option.rec none (fun v => kp k v loc t h) (orO (k1 f a) (e.g.g1 f a))) (rd x loc t))
    (fun f x y k e loc t h => Option.rec none (fun a => Option.rec none (fun b => Option.rec none (fun v => kp k v loc t h) (orO (k2 f a b) (e.g.g2 f a b))) (rd y loc t)) (rd x loc t))
    (fun x y z k _ loc t h => Option.rec none (fun a => Option.rec none (fun b => Option.rec none (fun c => Option.rec none (fun v => kp k v loc t h) (pickF a b c)) (rd z loc t)) (rd y loc t)) (rd x loc t))
    (fun f l k _ loc t h => Option.rec none (fun a => Option.rec none (fun v => kp k v loc t h) (runN f a)) (rds l loc t))
    (fun f x k _ loc t h => Option.rec none (fun a => Option.rec none (fun v => kp k v loc t h) (runR1 f h a)) (rd x loc t))
    (fun kt z ok x y k _ loc t h => Option.rec none (fun a => Option.rec none (fun b => Option.rec none (fun v => kp k v loc t h) (lookupF kt z ok h a b)) (rd y loc t)) (rd x loc t))
    (fun f l k _ loc t h => Option.rec none (fun a => Option.rec none (fun n => kp k (n.v h.next) loc t (h.new n.o)) (runAl f a)) (rds l loc t))
    (fun f l k _ loc t h => Option.rec none (fun a => Option.rec none (fun p => kp k p.1 loc t p.2) (runEf f a h)) (rds l loc t))
    (fun l k e loc t h => Option.rec none (fun a => Option.rec none (fun p => kp k p.1 loc t p.2) (callV e.call a h)) (rds l loc t))
    (fun _ _ _ _ => none) s
def runOps (o : Ops) : R1 :=
  Ops.rec (motive := fun _ => R1) (fun _ loc t h => some ⟨loc, t, h⟩)
    (fun s _ ih e loc t h => Option.rec none (fun s => ih e s.loc s.t s.h) (runStp s e loc t h))
    (fun g w k s _ ih e loc t h => Option.rec none (fun v =>
      Option.rec none (fun s => ih e s.loc s.t s.h)
        (Option.rec (Option.rec none (fun _ => kp k (.tup []) loc t h) (asTup v)) (fun b => Bool.rec (kp k (.tup []) loc t h) (runStp s e loc t h) (Bool.rec (not b) b w)) (asBool v))) (rd g loc t)) o


/-- equality that is surely so. -/
def optEq {α : Type} (f : α → α → Bool) (x y : Option α) : Bool := Option.rec (Option.rec true (fun _ => false) y) (fun a => Option.rec false (fun b => f a b) y) x
def bEq (a b : Bool) : Bool := Bool.rec (not b) b a
/-- flat values -/
def oneEq (x y : AV) : Bool := match x, y with
  | .int k a, .int k' b => kEq k k' && iEq a b
  | .bool a, .bool b => bEq a b
  | .ptr r o, .ptr r' o' => idEq r r' && Nat.beq o o'
  | .slc r o n sz c, .slc r' o' n' sz' c' => idEq r r' && Nat.beq o o' && Nat.beq n n' && Nat.beq sz sz' && optEq Nat.beq c c'
  | .str n l, .str n' l' => Nat.beq n n' && Nat.beq l l'
  | .nul k, .nul k' => Nat.beq k k'
  | .map r, .map r' => idEq r r'
  | .fn f [] [], .fn f' [] [] => Nat.beq f f'
  | .opq i, .opq j => Nat.beq i j
  | .coin, .coin => true
  | .tup [], .tup [] => true
  | _, _ => false
def allEq {α : Type} (f : α → α → Bool) (l : List α) : List α → Bool :=
  List.rec (motive := fun _ => List α → Bool) (fun m => List.rec true (fun _ _ _ => false) m) (fun a _ ih m => List.rec false (fun b m _ => Bool.rec false (ih m) (f a b)) m) l
def avBeq (x y : AV) : Bool := match x, y with
  | .agg l, .agg m => allEq oneEq l m
  | .fn f a b, .fn f' a' b' => Nat.beq f f' && allEq oneEq a a' && allEq oneEq b b'
  | .tup l, .tup m => allEq oneEq l m
  | x, y => oneEq x y
def entEq (x y : Ent) : Bool := avBeq x.1 y.1 && avBeq x.2.1 y.2.1 && Nat.beq x.2.2 y.2.2
def obEq (x y : Ob) : Bool := match x, y with
  | .row r l, .row r' m => bEq r r' && allEq avBeq l m
  | .mp es c, .mp es' c' => Nat.beq c c' && allEq entEq es es'
  | .mit m a s l, .mit m' a' s' l' => optEq idEq m m' && Nat.beq a a' && allEq Nat.beq s s' && Nat.beq l l'
  | _, _ => false
/-- what two tries have in common -/
def both {α : Type} (f : α → α → Bool) (x y : Option α) : Option α := Option.rec none (fun a => Option.rec none (fun b => Bool.rec none (some a) (f a b)) y) x
def Tr.meet {α : Type} (f : α → α → Bool) (t : Tr α) : Tr α → Tr α :=
  Tr.rec (motive := fun _ => Tr α → Tr α) (fun _ => .nil) (fun v _ _ il ir u => Tr.rec .nil (fun w l r _ _ => .node (both f v w) (il l) (ir r)) u) t

/-- new memory that stands in no abstract memory yet; an effect and the memory ahead of it (and, of a store, its size and operands); what was read. -/
structure Pd where
  i : Nat
  r : Id
  o : Ob
structure Hx where
  i : Nat
  hb : Hp
  pd : List Pd
  kb : Hp
  st : Option (Nat × List AV)
structure Rx where
  i : Nat
  anc : Nat
  f : Hp → Option AV
  v : AV
structure DS where
  loc : List AV
  t : T
  h : Hp
  res : Id
  pend : List Pd
  hist : List Hx
  rds : List Rx
def lay (anc : Nat) (l : List Pd) (h : Hp) : Hp := List.rec h (fun p _ h => Bool.rec h (h.put p.r p.o) (Nat.testBit anc p.i)) l
def unlaid (anc : Nat) (l : List Pd) : List Pd := List.rec [] (fun p _ r => Bool.rec (p :: r) r (Nat.testBit anc p.i)) l
def layAll (l : List Pd) (h : Hp) : Hp := List.rec h (fun p _ h => h.put p.r p.o) l
def seenBack (anc : Nat) (f : Hp → Option AV) (v : AV) (l : List Hx) : Bool := List.rec true (fun x _ ih => Bool.rec (Bool.rec false ih (optEq avBeq (f (lay anc x.pd x.hb)) (some v))) ih (Nat.testBit anc x.i)) l
def seenOn (anc : Nat) (pd : List Pd) (h : Hp) (l : List Rx) : Bool := List.rec true (fun x _ ih => Bool.rec (Bool.rec false ih (optEq avBeq (x.f (lay x.anc pd h)) (some x.v))) ih (Nat.testBit anc x.i)) l
abbrev D1 := Env → DS → Option DS
def dput (s : DS) (x : Option S) : Option DS := Option.rec none (fun q => some ⟨q.loc, q.t, q.h, s.res, s.pend, s.hist, s.rds⟩) x
def dPure (k : Kp) (v : Option AV) (s : DS) : Option DS := Option.rec none (fun v => dput s (kp k v s.loc s.t s.h)) v
def dRead (i anc : Nat) (k : Kp) (f : Hp → Option AV) (s : DS) : Option DS :=
  Option.rec none (fun v => Bool.rec none (dput ⟨s.loc, s.t, s.h, s.res, s.pend, s.hist, ⟨i, anc, f, v⟩ :: s.rds⟩ (kp k v s.loc s.t s.h)) (seenBack anc f v s.hist)) (f (lay anc s.pend s.h))
def dNew (i : Nat) (k : Kp) (n : Option Nw) (s : DS) : Option DS :=
  Option.rec none (fun n => dput ⟨s.loc, s.t, s.h, s.res, ⟨i, s.res, n.o⟩ :: s.pend, s.hist, s.rds⟩ (kp k (n.v s.res) s.loc s.t s.h)) n
/-- the last two effects may be two stores in either order: of unlike rows. -/
def apart2 (h : Hp) (n : Nat) (vs : List AV) (n' : Nat) (vs' : List AV) : Bool :=
  Option.rec false (fun p => Option.rec false (fun p' => Option.rec false (fun a => Option.rec false (fun a' => Bool.rec
    (Option.rec false (fun q => Option.rec false (fun _ => true) (storeF n vs q.2)) (storeF n' vs' h)) false (idEq a.1 a'.1)) (asPtr p'.1)) (asPtr p.1)) (list2 vs')) (list2 vs)
def swapOk (anc : Nat) (st : Option (Nat × List AV)) (hist : List Hx) : Bool :=
  List.rec true (fun x _ _ => Bool.rec (Option.rec false (fun q => Option.rec false (fun q' => apart2 x.kb q.1 q.2 q'.1 q'.2) st) x.st) true (Nat.testBit anc x.i)) hist
def dEffK (i anc : Nat) (k : Kp) (st : Option (Nat × List AV)) (f : Hp → Option (AV × Hp)) (kb : Hp) (s : DS) : Option DS :=
  Option.rec none (fun p => Bool.rec none (Bool.rec none
    (dput ⟨s.loc, s.t, p.2, s.res, unlaid anc s.pend, ⟨i, s.h, s.pend, kb, st⟩ :: s.hist, s.rds⟩ (kp k p.1 s.loc s.t p.2))
    (swapOk anc st s.hist)) (seenOn anc (unlaid anc s.pend) p.2 s.rds)) (f kb)
def dEff (i anc : Nat) (k : Kp) (st : Option (Nat × List AV)) (f : Hp → Option (AV × Hp)) (s : DS) : Option DS := dEffK i anc k st f (lay anc s.pend s.h) s
def isStore (f : Fef) (vs : List AV) : Option (Nat × List AV) := Fef.rec (fun n => some (n, vs)) (fun _ => none) (fun _ _ => none) none none none (fun _ => none) (fun _ => none) (fun _ _ => none) f
def runD1 (i anc : Nat) (s : Stp) : D1 :=
  Stp.rec (motive := fun _ => D1)
    (fun f x k e s => Option.rec none (fun a => dPure k (orO (k1 f a) (e.g.g1 f a)) s) (rd x s.loc s.t))
    (fun f x y k e s => Option.rec none (fun a => Option.rec none (fun b => dPure k (orO (k2 f a b) (e.g.g2 f a b)) s) (rd y s.loc s.t)) (rd x s.loc s.t))
    (fun x y z k _ s => Option.rec none (fun a => Option.rec none (fun b => Option.rec none (fun c => dPure k (pickF a b c) s) (rd z s.loc s.t)) (rd y s.loc s.t)) (rd x s.loc s.t))
    (fun f l k _ s => Option.rec none (fun a => dPure k (runN f a) s) (rds l s.loc s.t))
    (fun f x k _ s => Option.rec none (fun a => dRead i anc k (fun h => runR1 f h a) s) (rd x s.loc s.t))
    (fun kt z ok x y k _ s => Option.rec none (fun a => Option.rec none (fun b => dRead i anc k (fun h => lookupF kt z ok h a b) s) (rd y s.loc s.t)) (rd x s.loc s.t))
    (fun f l k _ s => Option.rec none (fun a => dNew i k (runAl f a) s) (rds l s.loc s.t))
    (fun f l k _ s => Option.rec none (fun a => dEff i anc k (isStore f a) (fun h => runEf f a h) s) (rds l s.loc s.t))
    (fun l k e s => Option.rec none (fun a => dEff i anc k none (fun h => callV e.call a h) s) (rds l s.loc s.t))
    (fun _ _ => none) s
def runDg (i anc : Nat) (g : Rdr × Bool × Kp) (st : Stp) : D1 := fun e s => Option.rec none (fun v =>
  Option.rec (Option.rec none (fun _ => dput s (kp g.2.2 (.tup []) s.loc s.t s.h)) (asTup v)) (fun b => Bool.rec (dput s (kp g.2.2 (.tup []) s.loc s.t s.h)) (runD1 i anc st e s) (bEq g.2.1 b)) (asBool v)) (rd g.1 s.loc s.t)
def runDs (l : List DStp) : D1 := List.rec (fun _ s => some s)
  (fun d _ ih e s => Option.rec none (fun s => ih e ⟨s.loc, s.t, s.h, Bool.rec s.res (inc s.res) d.nw, s.pend, s.hist, s.rds⟩) (Option.rec (runD1 d.i d.anc d.s e s) (fun g => runDg d.i d.anc g d.s e s) d.g)) l
def incN (n : Nat) (r : Id) : Id := Nat.rec r (fun _ r => inc r) n
def runDrw (n : Nat) (l : List DStp) (e : Env) (t : T) (h : Hp) : Option S :=
  Option.rec none (fun s => some ⟨s.loc, s.t, layAll s.pend s.h⟩) (runDs l e ⟨[], t, ⟨h.o, incN n h.next⟩, h.next, [], [], []⟩)

inductive Ex where
  | nrm | ext (id : Nat) | ret
  deriving Inhabited, Repr
structure St where
  e : Ex
  t : T
  h : Hp
abbrev X := T → Hp → Option St
/-- 0 less, 1 alike, 2 greater. -/
def idCmp (r : Id) : Id → Nat := List.rec (motive := fun _ => Id → Nat) (fun s => List.casesOn s 1 (fun _ _ => 0))
  (fun a _ ih s => List.casesOn s 2 (fun b s => Nat.rec 0 (fun k _ => Nat.rec (Bool.rec (Bool.rec 1 0 b) (Bool.rec 2 1 b) a) (fun _ _ => 2) k) (ih s))) r
def idMax (r s : Id) : Id := Nat.rec s (fun k _ => Nat.rec s (fun _ _ => r) k) (idCmp r s)
/-- both ways at a coin: what they have in common. -/
def join (a b : Option St) : Option St := Option.rec none (fun a => Option.rec none (fun b =>
  Ex.rec (Ex.rec (some ⟨.nrm, Tr.meet avBeq a.t b.t, ⟨Tr.meet obEq a.h.o b.h.o, idMax a.h.next b.h.next⟩⟩) (fun _ => none) none b.e) (fun _ => none) none a.e) b) a
def isCoin (v : AV) : Bool :=
  AV.rec (motive_1 := fun _ => Bool) (motive_2 := fun _ => Unit) (fun _ _ => false) (fun _ => false) (fun _ _ => false) (fun _ _ _ _ _ => false) (fun _ _ => false) (fun _ _ => false) (fun _ => false) (fun _ => false) (fun _ _ _ _ _ => false) (fun _ _ => false) (fun _ _ _ => false) true (fun _ => false) () (fun _ _ _ _ => ()) v
def body (c : Cmd) : Env → (Cmd → X) → X :=
  Cmd.rec (motive := fun _ => Env → (Cmd → X) → X)
    (fun _ _ t h => some ⟨.nrm, t, h⟩) (fun _ _ t h => some ⟨.ret, t, h⟩) (fun id _ _ t h => some ⟨.ext id, t, h⟩) (fun _ _ _ _ => none)
    (fun o e _ t h => Option.rec none (fun s => some ⟨.nrm, s.t, s.h⟩) (runOps o e [] t h))
    (fun n l e _ t h => Option.rec none (fun s => some ⟨.nrm, s.t, s.h⟩) (runDrw n l e t h))
    (fun k _ _ t h => Option.rec none (fun s => some ⟨.nrm, s.t, s.h⟩) (kp k .coin [] t h))
    (fun a b _ _ _ ih t h => Option.rec none (fun s => Ex.rec (ih b s.t s.h) (fun _ => some s) (some s) s.e) (ih a t h))
    (fun c a b _ _ _ ih t h => Option.rec none (fun v => Option.rec (Bool.rec none (join (ih a t h) (ih b t h)) (isCoin v)) (fun c => Bool.rec (ih b t h) (ih a t h) c) (asBool v)) (rd c [] t))
    (fun id a _ _ ih t h => Option.rec none (fun s => Ex.rec (some s) (fun i => Bool.rec (some s) (some ⟨.nrm, s.t, s.h⟩) (Nat.beq i id)) (some s) s.e) (ih a t h))
    (fun a _ _ ih t h => Option.rec none (fun s => Ex.rec (ih (.loop a) s.t s.h) (fun _ => some s) (some s) s.e) (ih a t h)) c

/-- What is told back. -/
inductive Rs where
  | slot (r : Id) | c1 (r : Id) | cN (r : Id) (n : Nat) | no
def result1 (r : Rs) : T → Hp → Option AV :=
  Rs.rec (fun r t _ => t.get r) (fun r t h => Option.rec none (fun a => load1F h a) (t.get r)) (fun r n t h => Option.rec none (fun a => loadNF n h a) (t.get r)) (fun _ _ => none) r
def resultsL (l : List Rs) : T → Hp → Option (List AV) :=
  List.rec (fun _ _ => some []) (fun r _ ih t h => Option.rec none (fun v => Option.rec none (fun vs => some (v :: vs)) (ih t h)) (result1 r t h)) l
def tupled (l : List AV) : AV := List.rec (.tup []) (fun v r _ => List.rec v (fun _ _ _ => .tup l) r) l
def results (l : List Rs) : T → Hp → Option AV := fun t h => Option.rec none (fun vs => some (tupled vs)) (resultsL l t h)
def ofArgs (l : List AV) : Id → T → T := List.rec (fun _ t => t) (fun a _ ih i t => ih (inc i) (t.set i a)) l

def cmpStr (n l m k : Nat) : Int := Bool.rec (Bool.rec 1 0 (sEq n l m k)) (-1) (sLt l k n m)
def idxOf (c : Nat) (l : Nat) : Nat → Nat → Int := Nat.rec (fun _ _ => -1) (fun _ ih n i => Bool.rec (ih (Nat.div n 256) (Nat.succ i)) (Int.ofNat i) (Nat.beq (Nat.mod n 256) c)) l
def countOf (c : Nat) (l : Nat) : Nat → Nat := Nat.rec (fun _ => 0) (fun _ ih n => Bool.rec (ih (Nat.div n 256)) (Nat.succ (ih (Nat.div n 256))) (Nat.beq (Nat.mod n 256) c)) l
/-- functions without a body. -/
inductive Xt where
  | count | index | cmp
def countF : P2 := fun x y => Option.rec none (fun s => Option.rec none (fun c => some (numI (countOf c s.2 s.1))) (byte? y)) (asStr x)
def indexF : P2 := fun x y => Option.rec none (fun s => Option.rec none (fun c => some (.int .i64 (idxOf c s.2 s.1 0))) (byte? y)) (asStr x)
def cmpF : P2 := fun x y => Option.rec none (fun s => Option.rec none (fun u => some (.int .i64 (cmpStr s.1 s.2 u.1 u.2))) (asStr y)) (asStr x)
def runXt (x : Xt) : P2 := Xt.rec countF indexF cmpF x

/-- A function: its code, or one of those without. -/
inductive Fu where
  | code (c : Cmd) (r : List Rs)
  | xt (x : Xt)
  | no
abbrev Sum := Nat → Option (List AV → Hp → Option (AV × Hp))
def outOf (rs : List Rs) (r : Option St) : Option (AV × Hp) :=
  Option.rec none (fun s => Ex.rec (Option.rec none (fun v => some (v, s.h)) (results rs s.t s.h)) (fun _ => none) (Option.rec none (fun v => some (v, s.h)) (results rs s.t s.h)) s.e) r
def enter (f : Fu) : (Cmd → X) → List AV → Hp → Option (AV × Hp) :=
  Fu.rec (fun c r ih args h => outOf r (ih c (ofArgs args [] .nil) h))
    (fun x _ args h => Option.rec none (fun q => Option.rec none (fun v => some (v, h)) (runXt x q.1 q.2)) (list2 args)) (fun _ _ _ => none) f
def callB (fu : Nat → Fu) (sum : Sum) (ih : Cmd → X) : CallF := fun f args h => Option.rec (enter (fu f) ih args h) (fun s => s args h) (sum f)
def exec (g : Gam) (fu : Nat → Fu) (sum : Sum) (n : Nat) : Cmd → X := Nat.rec (fun _ _ _ => none) (fun _ ih c t h => body c ⟨g, callB fu sum ih⟩ ih t h) n
def call (g : Gam) (fu : Nat → Fu) (sum : Sum) (n : Nat) : CallF := callB fu sum (exec g fu sum n)
def noSum : Sum := fun _ => none

section
variable (P : Program)

def sz? (t : TypeId) : Option Nat := match P.info? t with | some i => some i.size | none => none
def isAgg? (t : TypeId) : Option Bool := match P.underlying t with | some (.struct _) | some (.array ..) => some true | some _ => some false | none => none
/-- is it an aggregate? of how many cells? -/
def pt? (t : TypeId) : Option (Bool × Nat) := match isAgg? P t, sz? P t with | some a, some n => some (a, n) | _, _ => none
/-- a zero value that has as many cells as its type -/
def zero? (t : TypeId) : Option (AV × Nat) := match P.info? t with
  | some i => (match i.zero with
    | some v => (match ofValue v with | some z => bif Nat.beq (lenL z.cells) i.size && Nat.beq v.cells.size i.size then some (z, i.size) else none | none => none)
    | none => none)
  | none => none
def elem? (t : TypeId) : Option TypeId := match P.underlying t with | some (.slice e) => some e | _ => none
def fieldPts (fs : List Field) : Option (List (Nat × Nat)) := match fs with
  | [] => some []
  | f :: l => match sz? P f.type, fieldPts l with | some n, some r => some ((f.offset, n) :: r) | _, _ => none
def picks (l : List (Nat × Nat)) : List Nat → Option (List (Nat × Nat))
  | [] => some []
  | i :: r => match l[i]?, picks l r with | some p, some q => some (p :: q) | _, _ => none
/-- 0 a number, 1 a text, 2 a truth. -/
def plain? (t : TypeId) : Option Nat := match P.underlying t with | some (.int _) => some 0 | some .string => some 1 | some .bool => some 2 | _ => none
def flatFs (fs : List Field) (i : Nat) : Option (List Nat) := match fs with
  | [] => some []
  | f :: l => match plain? P f.type, flatFs l (i + 1) with | some k, some r => bif Nat.beq f.offset i && !(f.name == "_") then some (k :: r) else none | _, _ => none
def flat? (t : TypeId) : Option (List Nat) := match P.underlying t with
  | some (.struct fs) => bif P.eqGuardType P.depth t || P.stoodInHeld t then none else flatFs P fs.toList 0
  | some (.array n e) => bif P.eqGuardType P.depth t then none else (match plain? P e, sz? P e with | some k, some 1 => some (List.replicate n k) | _, _ => none)
  | _ => none
def isCst (x : Operand) : Bool := match x with | .const _ => true | _ => false
def eqT? (t : TypeId) (x y : Operand) : Option EqT := match P.underlying t with
  | some (.int _) => some .num
  | some .string => some .num
  | some .bool => some .bl
  | some (.pointer e) => (match sz? P e with | some (_ + 1) => some .ptr | _ => none)
  | some (.slice _) => some .slc
  | some (.map _ _) => some .map
  | some (.func ..) => some .fn
  | some (.interface _) => some (.ifc (isCst x || isCst y))
  | some (.struct _) => (match flat? P t with | some ks => some (.flat ks) | none => none)
  | some (.array ..) => (match flat? P t with | some ks => some (.flat ks) | none => none)
  | _ => none
/-- a map's keys and elements. -/
def map? (t : TypeId) : Option (KT × TypeId) := match P.underlying t with
  | some (.map k e) => (match plain? P k with
    | some n => some (.one n, e)
    | none => (match P.underlying k with | some (.struct _) => (match flat? P k with | some ks => some (.flat ks, e) | none => none) | _ => none))
  | _ => none

/-- What an operation is. -/
inductive Kd where
  | p1 (f : Fn1) | p2 (f : Fn2) | p3 | pn (f : FnN) | r1 (f : Fr1) | r2 (kt : KT) (z : AV) (ok : Bool) | al (f : Fal) | ef (f : Fef) | cl | no

def lenK (t : TypeId) : Kd := match P.underlying t with
  | some .string => .p1 .lenS
  | some (.slice _) => .p1 .lenL
  | some (.array n _) => .p1 (.lenA n)
  | some (.map _ _) => .r1 .lenM
  | some (.pointer a) => (match P.underlying a with | some (.array n _) => .p1 (.lenA n) | _ => .no)
  | _ => .no
/-- whose bytes are few -/
def small (t : TypeId) : Bool := match P.info? t with | some i => Nat.ble i.bytes 65536 | none => false
def appK (t u : TypeId) : Kd := match elem? P t, P.underlying u with
  | _, some (.int _) => .no
  | some e, some _ => (match zero? P e with | some (_, n + 1) => bif small P e then .ef (.app (n + 1)) else .no | _ => .no)
  | _, _ => .no
def builtinK (b : Builtin) (ts : List TypeId) : Kd := match b, ts with
  | .len, [t] => lenK P t
  | .append, [t, u] => appK P t u
  | .max, _ => .pn .max
  | .min, _ => .pn .min
  | .delete, t :: _ => (match map? P t with | some (k, _) => .ef (.del k) | none => .no)
  | .clear, [t] => (match elem? P t with | some e => (match zero? P e with | some (z, n + 1) => .ef (.clr (n + 1) z) | _ => .no) | none => .no)
  | _, _ => .no
def binK (op : BinOp) (t : TypeId) (x y : Operand) : Kd := match op with
  | .add => .p2 .add | .sub => .p2 .sub | .mul => .p2 .mul | .quo => .p2 .quo | .rem => .p2 .rem
  | .eql => (match eqT? P t x y with | some e => .p2 (.eql e) | none => .no)
  | .neq => (match eqT? P t x y with | some e => .p2 (.neq e) | none => .no)
  | .lss => .p2 .lss | .leq => .p2 .leq | .gtr => .p2 .gtr | .geq => .p2 .geq
  | .and => .p2 .and | .or => .p2 .or | .xor => .p2 .xor | .shl => .p2 .shl | .shr => .p2 .shr
  | _ => .no
def unK (op : UnOp) : Kd := match op with | .not => .p1 .nt | .neg => .p1 .neg | .xor => .p1 .cpl | _ => .no
def fieldAddrK (s : TypeId) (f : Nat) : Kd := match P.underlying s with
  | some (.struct fs) => (match fs[f]? with
    | some fd => (match sz? P fd.type with | some (_ + 1) => .p1 (.fa fd.offset) | _ => .no)
    | none => .no)
  | _ => .no
def indexAddrK (t : TypeId) : Kd := match P.underlying t with
  | some (.array n e) => (match sz? P e with | some m => .p2 (.arr n m) | none => .no)
  | some (.slice e) => (match sz? P e with | some m => .p2 (.slc m) | none => .no)
  | _ => .no
def indexK (t : TypeId) : Kd := match P.underlying t with
  | some (.array n e) => (match pt? P e with | some (a, m) => .p2 (.elem n a m) | none => .no)
  | some .string => .p2 .ch
  | _ => .no
def fieldK (t : TypeId) (f : Nat) : Kd := match P.underlying t with
  | some (.struct fs) => (match fs[f]? with | some fd => (match pt? P fd.type with | some (a, m) => .p1 (.fld a m fd.offset) | none => .no) | none => .no)
  | _ => .no
def buildK (t : TypeId) (ps : List Nat) : Kd := match P.underlying t, zero? P t with
  | some (.struct fs), some (z, _) => (match fieldPts P fs.toList with | some l => (match picks l ps with | some q => .pn (.build z q) | none => .no) | none => .no)
  | some (.array _ e), some (z, _) => (match sz? P e with | some m => .pn (.build z (ps.map fun i => (i * m, m))) | none => .no)
  | _, _ => .no
def buildSliceK (t : TypeId) (n : Nat) (ps : List Nat) : Kd := match elem? P t with
  | some e => (match zero? P e with | some (z, m + 1) => bif Nat.ble (n * (m + 1)) 16777216 then .al (.bslice n (m + 1) z (ps.map fun i => (i * (m + 1), m + 1))) else .no | _ => .no)
  | none => .no
def makeSliceK (t : TypeId) : Kd := match elem? P t with
  | some e => (match zero? P e with | some (z, m + 1) => bif small P e then .al (.mslice (m + 1) z) else .no | _ => .no)
  | none => .no
def sliceK (t : TypeId) (lo hi mx : Bool) : Kd := match P.underlying t with
  | some .string => .pn (.sliceS lo hi mx)
  | some (.slice e) => (match sz? P e with | some m => .pn (.sliceL m lo hi mx) | none => .no)
  | _ => .no
def byteElem (e : TypeId) : Bool := match P.underlying e with | some (.int .u8) => true | _ => false
def convertK (s d : TypeId) : Kd := match P.underlying s, P.underlying d with
  | some _, some (.int k) => .p1 (.cint k)
  | some .string, some .string => .p1 .cstr
  | some (.slice e), some .string => bif byteElem P e then .r1 .bstr else .no
  | some .string, some (.slice e) => bif byteElem P e then .al .sbytes else .no
  | _, _ => .no

/-- what an operation does, of its operands' values. -/
def opK (op : Op) : Kd := match op with
  | .move _ | .assign _ => .p1 .mov
  | .pick .. => .p3
  | .load t _ => (match pt? P t with | some (true, n) => .r1 (.ldN n) | some (false, _) => .r1 .ld1 | none => .no)
  | .store t _ _ => (match sz? P t with | some n => .ef (.store n) | none => .no)
  | .fieldAddr s _ f => fieldAddrK P s f
  | .nilCheck _ => .p1 .nck
  | .indexAddr t _ _ => indexAddrK P t
  | .index t _ _ => indexK P t
  | .binOp o t x y _ => binK P o t x y
  | .unOp o _ _ => unK o
  | .extract _ i => .p1 (.ext i)
  | .field t _ f => fieldK P t f
  | .alloc e => (match zero? P e with | some (z, _) => .al (.alloc z) | none => .no)
  | .box .. => .al .box
  | .build t ps => buildK P t (ps.toList.map (·.1))
  | .buildSlice t n ps => buildSliceK P t n (ps.toList.map (·.1))
  | .makeSlice t _ _ => makeSliceK P t
  | .slice t _ lo hi mx => sliceK P t lo.isSome hi.isSome mx.isSome
  | .convert s d _ => convertK P s d
  | .makeInterface t _ => (match P.underlying t with | some (.interface _) => .no | some _ => .p1 (.ifc t) | none => .no)
  | .makeFunc (.func f) first _ => .pn (.clos f first.size)
  | .makeMap _ none => .al .mmap
  | .lookup t _ _ ok => (match map? P t with | some (k, e) => (match zero? P e with | some (z, _) => .r2 k z ok | none => .no) | none => .no)
  | .insert t _ _ _ | .mapUpdate t _ _ _ => (match map? P t with | some (k, _) => .ef (.mup k) | none => .no)
  | .mapEntry t _ _ => (match map? P t with | some (k, e) => (match zero? P e with | some (z, _) => .ef (.men k z) | none => .no) | none => .no)
  | .entryStore .. => .ef .ens
  | .range t _ => (match P.underlying t with | some (.map _ _) => .ef .range | _ => .no)
  | .next _ false => .ef .next
  | .entry _ => .r1 .entry
  | .call c => (match c.callee with | .builtin b => builtinK P b c.argTypes.toList | .value _ => .cl | _ => .no)
  | _ => .no

/-- an operation's operands, in a row. -/
def opnds (op : Op) : List Operand := match op with
  | .call c => (match c.callee with | .builtin _ => c.args.toList | .value f => f :: c.args.toList | .invoke r _ => r :: c.args.toList)
  | .build _ ps | .buildSlice _ _ ps => ps.toList.map (·.2)
  | .makeFunc _ a b => a.toList ++ b.toList
  | .slice _ x l h m => x :: (l.toList ++ h.toList ++ m.toList)
  | op => op.operands.toList

/-- where the newest value of a slot stands among what a region has told so far. -/
def locIdx : List Nat → Nat → Option Nat
  | [], _ => none
  | d :: r, i => if d = i then some 0 else (locIdx r i).map (· + 1)
def cRd (m : Nat) (prev : List Nat) (x : Operand) : Rdr := match x with
  | .tmp i => (match locIdx prev i with | some n => .loc n | none => bif Nat.testBit m i then .slot (pth i) else .con none)
  | .const v => .con (ofValue v)
  | .global g => bif Nat.blt g P.globals.size then .gp (pth g) else .con none
  | .func f => .fp f
def cKp (m : Nat) (d : Option Nat) : Kp := match d with
  | none => .drop
  | some d => bif Nat.testBit m d then .set (pth d) else .push
def cStp (m : Nat) (prev : List Nat) (l : List Operand) (kd : Kd) (k : Kp) : Stp := match kd, l with
  | .p1 f, [x] => .p1 f (cRd P m prev x) k
  | .p2 f, [x, y] => .p2 f (cRd P m prev x) (cRd P m prev y) k
  | .p3, [x, y, z] => .p3 (cRd P m prev x) (cRd P m prev y) (cRd P m prev z) k
  | .pn f, l => .pn f (l.map (cRd P m prev)) k
  | .r1 f, [x] => .r1 f (cRd P m prev x) k
  | .r2 kt z ok, [x, y] => .r2 kt z ok (cRd P m prev x) (cRd P m prev y) k
  | .al f, l => .al f (l.map (cRd P m prev)) k
  | .ef f, l => .ef f (l.map (cRd P m prev)) k
  | .cl, l => .cl (l.map (cRd P m prev)) k
  | _, _ => .no
def dstOf (all : List Oper) (j : Nat) : Option Nat := match nth all j with | some o => o.dst | none => none
def told (d : Option Nat) (prev : List Nat) : List Nat := match d with | some d => d :: prev | none => prev
def cOps (m : Nat) (all : List Oper) : List Oper → List Nat → Ops
  | [], _ => .nil
  | o :: l, prev => match o.guard with
    | none => .cons (cStp P m prev (opnds o.op) (opK P o.op) (cKp m o.dst)) (cOps m all l (told o.dst prev))
    | some (j, w) => match dstOf all j with
      | some d => .gd (cRd P m prev (.tmp d)) w (cKp m o.dst) (cStp P m prev (opnds o.op) (opK P o.op) (cKp m o.dst)) (cOps m all l (told o.dst prev))
      | none => .cons .no .nil
/-- those that stand ahead of each operation, by the edges that always bind: one bit each. -/
def ancOf (o : Oper) (l : List Nat) : Nat := o.after.toList.foldl (fun m e => bif Region.binds .any e then m ||| 2 ^ e.on ||| (match nth l e.on with | some k => k | none => 0) else m) 0
def ancs (l : List Oper) (acc : List Nat) : List Nat := match l with
  | [] => acc
  | o :: l => ancs l (acc ++ [ancOf o acc])
inductive Cls where
  | pure | read | new | eff | store
def cls (op : Op) : Cls := match opK P op with
  | .p1 _ | .p2 _ | .p3 | .pn _ => .pure
  | .r1 _ | .r2 .. => .read
  | .al _ => .new
  | .ef (.store _) => .store
  | _ => .eff
def isEff (c : Cls) : Bool := match c with | .eff | .store => true | _ => false
def isPure (c : Cls) : Bool := match c with | .pure => true | _ => false
def isNw (c : Cls) : Bool := match c with | .new => true | _ => false
/-- how many operations make new memory -/
def nwCount (l : List Oper) : Nat := match l with | [] => 0 | o :: l => bif isNw (cls P o.op) then nwCount l + 1 else nwCount l
def isSt (c : Cls) : Bool := match c with | .store => true | _ => false
def usesOf (all : List Oper) (o : Oper) : List Nat := ((opnds o.op).filterMap fun x => match x with | .tmp i => some i | _ => none) ++ (match o.guard with | some (j, _) => (dstOf all j).toList | none => [])
def bitAt (l : List Nat) (i j : Nat) : Bool := match nth l i with | some m => Nat.testBit m j | none => false
/-- may a region that draws its order be run in the order of its text? -/
def planOk (all : List Oper) : Bool :=
  let an := ancs all []
  let n := all.length
  let ix := List.range n
  let at' (i : Nat) : Oper := (nth all i).getD default
  let c (i : Nat) : Cls := cls P (at' i).op
  -- edges go back
  ix.all (fun i => (at' i).after.toList.all fun e => !Region.binds .any e || Nat.blt e.on i) &&
  -- each slot is told once; who asks for it stands behind, or ahead
  ix.all (fun i => match (at' i).dst with | none => true | some d => ix.all fun j => Nat.beq i j || !((at' j).dst == some d)) &&
  ix.all (fun i => (usesOf all (at' i)).all fun u => ix.all fun j => !((at' j).dst == some u) || bitAt an i j || bitAt an j i) &&
  ix.all (fun i => match (at' i).guard with | none => true | some (j, _) => bitAt an i j && Nat.blt j n && isO (dstOf all j)) &&
  -- effects in one order, but for two stores at the end
  ix.all (fun i => ix.all fun j => !(Nat.blt j i && isEff (c i) && isEff (c j)) || bitAt an i j ||
    (isSt (c i) && isSt (c j) && ix.all fun k => Nat.beq k i || Nat.beq k j || isPure (c k) || (bitAt an i k && bitAt an j k)))
def cD (m : Nat) (all : List Oper) (an : List Nat) : List Oper → List Nat → Nat → List DStp
  | [], _, _ => []
  | o :: l, prev, i => ⟨i, (nth an i).getD 0, (match o.guard with | some (j, w) => (match dstOf all j with | some d => some (cRd P m prev (.tmp d), w, cKp m o.dst) | none => none) | none => none), cStp P m prev (opnds o.op) (opK P o.op) (cKp m o.dst), isNw (cls P o.op)⟩ ::
    cD m all an l (told o.dst prev) (i + 1)
def bindsTo (o : Oper) (i : Nat) : Bool := o.after.toList.any fun e => Region.binds .any e && Nat.beq e.on i
def one? (t : TypeId) : Bool := match pt? P t with | some (false, 1) => true | _ => false
def backTo (o : Oper) (i : Nat) : Bool := o.after.toList.all fun e => !Region.binds .any e || Nat.blt e.on i
/-- the edges of a coin's region -/
def coinEdges (l : List Oper) : Bool := match l with
  | [o0, o1, o2, o3] => backTo o0 0 && backTo o1 1 && backTo o2 2 && backTo o3 3 && bindsTo o1 0 && bindsTo o2 0 && bindsTo o3 1 && bindsTo o3 2
  | _ => false
/-- the region that tells which of two stores came last: the slot of the memory, of the answer -/
def coinShape (l : List Oper) : Option (Nat × Nat) := match l with
  | [⟨some a, .alloc t0, _, _, _, none⟩, ⟨none, .store t1 (.tmp b) (.const (.bool true)), _, _, _, none⟩, ⟨none, .store t2 (.tmp c) (.const (.bool false)), _, _, _, none⟩, ⟨some d, .load t3 (.tmp e), _, _, _, none⟩] =>
    if a = b ∧ a = c ∧ a = e ∧ a ≠ d then
      bif (match zero? P t0 with | some (_, 1) => true | _ => false) && one? P t1 && one? P t2 && one? P t3 then some (a, d) else none
    else none
  | _ => none
def coinDst (l : List Oper) : Option (Nat × Nat) := match coinShape P l with | some p => bif coinEdges l then some p else none | none => none
def cDrawn (m : Nat) (l : List Oper) : Cmd := match coinDst P l with
  | some (a, d) => bif Nat.testBit m a then .no else .coin (cKp m (some d))
  | none => bif planOk P l then .drw (nwCount P l) (cD P m l (ancs l []) l [] 0) else .no
def cCode (m : Nat) (c : Code) : Cmd := match c with
  | .skip => .skip
  | .region _ ops d => bif d then cDrawn P m ops.toList else .reg (cOps P m ops.toList ops.toList [])
  | .seq a b => .seq (cCode m a) (cCode m b)
  | .cond c a b => .cond (cRd P m [] c) (cCode m a) (cCode m b)
  | .block id a => .block id (cCode m a)
  | .loop a => .loop (cCode m a)
  | .exit id => .ext id
  | .ret => .ret
  | _ => .no
/-- the slots that are asked for outside of the region that tells them: one bit each. -/
def asksOp (prev : List Nat) (x : Operand) : Nat := match x with | .tmp i => (match locIdx prev i with | some _ => 0 | none => 2 ^ i) | _ => 0
def asksOps (all : List Oper) : List Oper → List Nat → Nat
  | [], _ => 0
  | o :: l, prev => (opnds o.op).foldl (fun m x => m ||| asksOp prev x) (match o.guard with | some (j, _) => (match dstOf all j with | some d => asksOp prev (.tmp d) | none => 0) | none => 0) ||| asksOps all l (told o.dst prev)
def asks (c : Code) : Nat := match c with
  | .region _ ops _ => asksOps ops.toList ops.toList []
  | .seq a b => asks a ||| asks b
  | .cond x a b => asksOp [] x ||| asks a ||| asks b
  | .block _ a => asks a
  | .loop a => asks a
  | _ => 0
def maskOf (fn : Func) (c : Code) : Nat := asks c ||| fn.results.toList.foldl (fun m r => m ||| (match r with | .tmp i => 2 ^ i | .cell a _ => 2 ^ a)) 0
def slotIf (m i : Nat) (r : Rs) : Rs := bif Nat.testBit m i then r else .no
def cRs (m : Nat) (r : ResultVar) : Rs := match r with
  | .tmp i => slotIf m i (.slot (pth i))
  | .cell a ty => (match pt? P ty with | some (true, n) => slotIf m a (.cN (pth a) n) | some (false, _) => slotIf m a (.c1 (pth a)) | none => .no)
/-- are there as many slots as are told? -/
def dOkOps (n : Nat) (l : List Oper) : Bool := match l with
  | [] => true
  | o :: l => match o.dst with | some d => bif Nat.blt d n then dOkOps n l else false | none => dOkOps n l
def dOk (n : Nat) (c : Code) : Bool := match c with
  | .region _ ops _ => dOkOps n ops.toList
  | .seq a b => bif dOk n a then dOk n b else false
  | .cond _ a b => bif dOk n a then dOk n b else false
  | .block _ a => dOk n a
  | .loop a => dOk n a
  | _ => true
def cFu (fn : Func) : Fu := match fn.body with
  | some c => bif dOk fn.ntmps c then .code (cCode P (maskOf fn c) c) (fn.results.toList.map (cRs P (maskOf fn c))) else .no
  | none => if fn.name = "internal/bytealg.CountString" then .xt .count else if fn.name = "internal/bytealg.IndexByteString" then .xt .index
    else if fn.name = "internal/bytealg.abigen_runtime_cmpstring" then .xt .cmp else .no
def fuOf (f : Nat) : Fu := match P.funcs[f]? with | some fn => cFu P fn | none => .no
end
end
end Go.Ev
