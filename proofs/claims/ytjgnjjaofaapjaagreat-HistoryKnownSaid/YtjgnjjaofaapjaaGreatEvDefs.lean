import GoSem.Claims
import Derived.Calls
import Derived.Orders
import Derived.Defers
namespace Go.Ev
noncomputable section

/-- An object of the small heap: cells (rw: may it be written), or a map. A slice of the small heap bears, in its third place, how many cells an element takes. -/
inductive AObj where
  | cells (c : List Value) (rw : Bool)
  | amap (es : List MapEntry)
  | dead
  deriving Inhabited

/-- A trie over numbers. -/
inductive Tr (α : Type) where
  | nil
  | leaf (o : α)
  | node (l r : Tr α)
  deriving Inhabited

/-- 'if', in one step of the kernel's. -/
def sel {α : Type} (b : Bool) (x y : α) : α := Bool.rec (motive := fun _ => α) y x b

def Tr.get {α : Type} (t : Tr α) : Nat → Option α :=
  Tr.rec (motive := fun _ => Nat → Option α) (fun _ => none) (fun o _ => some o)
    (fun _ _ gl gr i => sel (Nat.beq (Nat.mod i 2) 0) (gl (Nat.div i 2)) (gr (Nat.div i 2))) t

/-- The tree with another tree at a place, d rows down. -/
def Tr.put {α : Type} (d : Nat) : Tr α → Nat → Tr α → Tr α :=
  Nat.rec (motive := fun _ => Tr α → Nat → Tr α → Tr α) (fun _ _ o => o)
    (fun _ ih t i o =>
      Tr.rec (motive := fun _ => Tr α)
        (sel (Nat.beq (Nat.mod i 2) 0) (.node (ih .nil (Nat.div i 2) o) .nil) (.node .nil (ih .nil (Nat.div i 2) o)))
        (fun _ => sel (Nat.beq (Nat.mod i 2) 0) (.node (ih .nil (Nat.div i 2) o) .nil) (.node .nil (ih .nil (Nat.div i 2) o)))
        (fun l r _ _ => sel (Nat.beq (Nat.mod i 2) 0) (.node (ih l (Nat.div i 2) o) r) (.node l (ih r (Nat.div i 2) o))) t) d

def deep : Nat := 16
def most : Nat := 65536

structure AH where
  t : Tr AObj
  next : Nat
  log : List Nat
  deriving Inhabited

def AH.get (h : AH) (i : Nat) : Option AObj := sel (Nat.blt i h.next) (Tr.get h.t i) none
def AH.put (h : AH) (i : Nat) (o : AObj) : AH := ⟨Tr.put deep h.t i (.leaf o), h.next, h.log⟩
def AH.set (h : AH) (i : Nat) (o : AObj) : AH := ⟨Tr.put deep h.t i (.leaf o), h.next, i :: h.log⟩
def AH.del (h : AH) (i : Nat) : AH := h.set i .dead
def AH.empty : AH := ⟨.nil, 0, []⟩

/-- What an operation does to the small heap. -/
inductive AM (α : Type) where
  | ret (a : α)
  | get (i : Nat) (k : AObj → AM α)
  | set (i : Nat) (o : AObj) (k : AM α)
  | kill (i : Nat) (k : AM α)
  | new (o : AObj) (k : AM α)
  | fail

namespace AM
def bind {α β : Type} : AM α → (α → AM β) → AM β
  | .ret a, f => f a
  | .get i k, f => .get i fun o => (k o).bind f
  | .set i o k, f => .set i o (k.bind f)
  | .kill i k, f => .kill i (k.bind f)
  | .new o k, f => .new o (k.bind f)
  | .fail, _ => .fail
/-- The new object, if there is one, has the number 'id'. -/
def run {α : Type} (id : Nat) : AM α → AH → Option (α × AH)
  | .ret a, h => some (a, h)
  | .get i k, h => match h.get i with
    | some o => (k o).run id h
    | none => none
  | .set i o k, h => match h.get i with
    | some _ => k.run id (h.set i o)
    | none => none
  | .kill i k, h => match h.get i with
    | some _ => k.run id (h.del i)
    | none => none
  | .new o k, h => match h.get id with
    | some _ => none
    | none => bif Nat.blt id h.next then k.run id (h.put id o) else none
  | .fail, _ => none
end AM

/-- What comes of an operation. -/
inductive ANext where
  | value (v : Value)
  | skip
  | enter (f : FuncId) (args : Array Value)
  | defer (d : Deferred)
  | panic (v : Value)
  deriving Inhabited

def retV (v : Value) : AM ANext := .ret (.value v)
def retO : Option Value → AM ANext
  | some v => .ret (.value v)
  | none => .fail
def ofOpt {α : Type} : Option α → AM α
  | some a => .ret a
  | none => .fail

/-- No addresses inside. -/
def plain1 : Value → Bool
  | .bool _ | .int _ _ | .string _ | .nilFunc | .nilIface => true
  | .pointer a => a.isNone
  | .slice a n c => a.isNone && Nat.beq n 0 && Nat.beq c 0
  | .map r => r.isNone
  | _ => false
def plainV : Value → Bool
  | .agg cs => cs.toList.all plain1
  | v => plain1 v

def notAgg : Value → Bool
  | .agg _ | .tuple _ => false
  | _ => true

def isAggD : TypeDesc → Bool
  | .struct _ | .array _ _ => true
  | _ => false

/-- How many cells a value of a type takes, and whether it is a struct or an array. -/
def shapeOf (P : Program) (t : TypeId) : Option (Bool × Nat) :=
  match P.underlying t, P.info? t with
  | some d, some inf => some (isAggD d, inf.size)
  | _, _ => none

def okAt (a : Addr) : Bool := a.spot.isNone

/-- n cells of object i from 'off' on. -/
def takeCells (c : List Value) (off n : Nat) : Option (List Value) :=
  bif Nat.ble (Nat.add off n) c.length then some ((c.drop off).take n) else none

def aCells (i off n : Nat) (k : List Value → AM ANext) : AM ANext :=
  .get i fun
    | .cells c _ => match takeCells c off n with
      | some l => k l
      | none => .fail
    | _ => .fail

def loadV (agg : Bool) (l : List Value) : AM ANext :=
  bif agg then .ret (.value (.agg l.toArray)) else
  match l with
  | [v] => .ret (.value v)
  | _ => .fail

def addrOf : Value → Option Addr
  | .pointer (some a) => bif okAt a then some a else none
  | _ => none

def oLoad (P : Program) (t : TypeId) (x : Value) : AM ANext :=
  match addrOf x with
  | some a => match shapeOf P t with
    | some (agg, n) => aCells a.block a.off n (loadV agg)
    | none => .fail
  | none => .fail

def putCells (c : List Value) (off : Nat) (vs : List Value) : List Value := c.take off ++ (vs ++ c.drop (off + vs.length))

def aStoreCells (i off : Nat) (vs : List Value) (k : AM ANext) : AM ANext :=
  .get i fun
    | .cells c rw =>
      bif rw && Nat.ble (Nat.add off vs.length) c.length then .set i (.cells (putCells c off vs) true) k else .fail
    | _ => .fail

def oStore (P : Program) (t : TypeId) (x v : Value) : AM ANext :=
  match addrOf x with
  | some a => match P.info? t with
    | some inf =>
      bif Nat.beq v.cells.size inf.size && v.cells.toList.all notAgg then aStoreCells a.block a.off v.cells.toList (.ret .skip) else .fail
    | none => .fail
  | none => .fail

/-- The cells of a type's zero value, if none holds an address. -/
def aZero (P : Program) (t : TypeId) : Option (Array Value) :=
  match P.info? t with
  | some inf => match inf.zero with
    | some z => bif plainV z then some z.cells else none
    | none => none
  | none => none
def aZeroV (P : Program) (t : TypeId) : Option Value :=
  match P.info? t with
  | some inf => match inf.zero with
    | some z => bif plainV z then some z else none
    | none => none
  | none => none

def ptr (id : Nat) : Value := .pointer (some ⟨id, 0, none⟩)
def sl (id n s : Nat) : Value := .slice (some ⟨id, 0, none⟩) n s

def oBox (id : Nat) (cs : Array Value) : AM ANext := .new (.cells cs.toList true) (retV (ptr id))

def oAlloc (P : Program) (id : Nat) (t : TypeId) : AM ANext :=
  match aZero P t with
  | some z => oBox id z
  | none => .fail

def aPart (P : Program) (t : TypeId) (cs : Array Value) (off : Nat) : Option Value :=
  match shapeOf P t with
  | some (agg, n) => bif agg then some (.agg (cs.extract off (off + n))) else cs[off]?
  | none => none

def aIdx (i : Int) (n : Nat) : Option Nat :=
  match i with
  | .ofNat k => bif Nat.blt k n then some k else none
  | .negSucc _ => none
def aIdxLe (i : Int) (n : Nat) : Option Nat :=
  match i with
  | .ofNat k => bif Nat.ble k n then some k else none
  | .negSucc _ => none

def intOfV : Value → Option Int
  | .int _ n => some n
  | _ => none

def aBound (v : Option Value) (dflt n : Nat) : Option Nat :=
  match v with
  | none => some dflt
  | some v => (intOfV v).bind fun i => aIdxLe i n

def sliceStr (s : ByteArray) (lo hi mx : Option Value) : Option Value :=
  match mx with
  | some _ => none
  | none => (aBound hi s.size s.size).bind fun h => (aBound lo 0 h).bind fun l => some (.string (s.extract l h))
def sliceSl (size : Nat) (a : Option Addr) (len c : Nat) (lo hi mx : Option Value) : Option Value :=
  bif mx.isSome && hi.isNone then none else
  (aBound mx len len).bind fun m => (aBound hi len m).bind fun h => (aBound lo 0 h).bind fun l =>
    match a with
    | none => some (.slice none 0 0)
    | some a => bif okAt a && Nat.beq c size then some (.slice (some ⟨a.block, Nat.add a.off (Nat.mul l size), none⟩) (Nat.sub h l) size) else none

def aSlice (P : Program) (t : TypeId) (x : Value) (lo hi mx : Option Value) : Option Value :=
  match P.underlying t with
  | some .string => match x with
    | .string s => sliceStr s lo hi mx
    | _ => none
  | some (.slice elem) => match x with
    | .slice a len c => match P.info? elem with
      | some inf => sliceSl inf.size a len c lo hi mx
      | none => none
    | _ => none
  | _ => none

def bvBin (f : {n : Nat} → BitVec n → BitVec n → BitVec n) (k : IntKind) (a b : Int) : Option Value :=
  some (.int k (k.wrap (f (BitVec.ofInt k.bits a) (BitVec.ofInt k.bits b)).toNat))
def iWrap (k : IntKind) (n : Int) : Option Value := some (.int k (k.wrap n))
def iQuo (k : IntKind) (a b : Int) : Option Value := bif decide (b = 0) then none else some (.int k (k.wrap (a.tdiv b)))
def iRem (k : IntKind) (a b : Int) : Option Value := bif decide (b = 0) then none else some (.int k (a.tmod b))
def oBool (b : Bool) : Option Value := some (.bool b)

def aIntBin (op : BinOp) (k : IntKind) (a b : Int) : Option Value :=
  match op with
  | .add => iWrap k (a + b)
  | .sub => iWrap k (a - b)
  | .mul => iWrap k (a * b)
  | .quo => iQuo k a b
  | .rem => iRem k a b
  | .and => bvBin (fun x y => x &&& y) k a b
  | .or => bvBin (fun x y => x ||| y) k a b
  | .xor => bvBin (fun x y => x ^^^ y) k a b
  | .andNot => bvBin (fun x y => x &&& ~~~y) k a b
  | .eql => oBool (a == b)
  | .neq => oBool (a != b)
  | .lss => oBool (a < b)
  | .leq => oBool (a ≤ b)
  | .gtr => oBool (a > b)
  | .geq => oBool (a ≥ b)
  | _ => none

def iShl (k : IntKind) (a b : Int) : Option Value := bif decide (b < 0) then none else some (.int k (k.wrap (a * 2 ^ (min b.toNat k.bits))))
def iShr (k : IntKind) (a b : Int) : Option Value := bif decide (b < 0) then none else some (.int k (a.fdiv (2 ^ (min b.toNat k.bits))))

/-- Equality of plain values, by the model's own function in a world without memory. -/
def aEqual (P : Program) (t : TypeId) (x y : Value) : Option Bool :=
  bif plainV x && plainV y then
    match (Op.equal t x y).run P default with
    | .ok b _ => some b
    | .halt _ _ => none
  else none

def eqAgg (P : Program) (t : TypeId) (x y : Value) : Option Bool :=
  bif P.eqGuardType P.depth t then none else aEqual P t x y

def nilPtr (x y : Value) : Option Bool :=
  match x with
  | .pointer a => match y with
    | .pointer none => some a.isNone
    | _ => none
  | _ => none
def nilSl (x y : Value) : Option Bool :=
  match x with
  | .slice a _ _ => match y with
    | .slice none _ _ => some a.isNone
    | _ => none
  | _ => none
def nilMap (x y : Value) : Option Bool :=
  match x with
  | .map a => match y with
    | .map none => some a.isNone
    | _ => none
  | _ => none
def nilFun (x y : Value) : Option Bool :=
  match y with
  | .nilFunc => match x with
    | .nilFunc => some true
    | .func _ _ _ => some false
    | _ => none
  | _ => none
def eqNil (P : Program) (t : TypeId) (x y : Value) : Option Bool :=
  match P.underlying t with
  | some (.pointer _) => nilPtr x y
  | some (.slice _) => nilSl x y
  | some (.map _ _) => nilMap x y
  | some (.func _ _ _) => nilFun x y
  | _ => none

def aEq (P : Program) (t : TypeId) (x y : Value) : Option Bool :=
  match x with
  | .agg _ => match y with
    | .agg _ => eqAgg P t x y
    | _ => none
  | .bool a => match y with
    | .bool b => match P.underlying t with
      | some .bool => some (a == b)
      | _ => none
    | _ => none
  | .string a => match y with
    | .string b => some (a.toList == b.toList)
    | _ => none
  | _ => eqNil P t x y

def binInt (op : BinOp) (k : IntKind) (a : Int) (k' : IntKind) (b : Int) : Option Value :=
  match op with
  | .shl => iShl k a b
  | .shr => iShr k a b
  | op => bif decide (k = k') then aIntBin op k a b else none
def binOther (P : Program) (op : BinOp) (t : TypeId) (x y : Value) : Option Value :=
  match op with
  | .eql => (aEq P t x y).map Value.bool
  | .neq => (aEq P t x y).map fun b => Value.bool (!b)
  | .add => match x with
    | .string a => match y with
      | .string b => bif Nat.ble (a.size + b.size) 9223372036854775807 then some (.string (a ++ b)) else none
      | _ => none
    | _ => none
  | _ => none

def aBin (P : Program) (op : BinOp) (t : TypeId) (x y : Value) : Option Value :=
  match x with
  | .int k a => match y with
    | .int k' b => binInt op k a k' b
    | _ => none
  | x => binOther P op t x y

def aUn (op : UnOp) (x : Value) : Option Value :=
  match x with
  | .int k n => match op with
    | .neg => iWrap k (0 - n)
    | .xor => bvBin (fun x y => x ^^^ y) k (if k.signed then -1 else k.max) n
    | _ => none
  | .bool b => match op with
    | .not => some (.bool !b)
    | _ => none
  | _ => none

def bytesOfVals : List Value → Option (List UInt8)
  | [] => some []
  | v :: l => match v with
    | .int k n => match k with
      | .u8 => (bytesOfVals l).map (UInt8.ofNat n.toNat :: ·)
      | _ => none
    | _ => none

def valsOfBytes (s : ByteArray) : List Value := s.data.toList.map fun b => .int .u8 b.toNat

def convStr (len : Nat) (a : Option Addr) : AM ANext :=
  match a with
  | none => bif Nat.beq len 0 then retV (.string .empty) else .fail
  | some a => bif okAt a then aCells a.block a.off len fun cs => match bytesOfVals cs with
      | some bs => retV (.string ⟨bs.toArray⟩)
      | none => .fail
    else .fail

def isByte (P : Program) (e : TypeId) : Bool :=
  match P.underlying e with
  | some (.int .u8) => match P.info? e with
    | some inf => Nat.beq inf.size 1
    | none => false
  | _ => false

def convBytes (id : Nat) (s : ByteArray) : AM ANext := .new (.cells (valsOfBytes s) true) (retV (sl id s.size 1))

def oConvert (P : Program) (id : Nat) (src dst : TypeId) (x : Value) : AM ANext :=
  match x with
  | .int _ n => match P.underlying src with
    | some _ => match P.underlying dst with
      | some (.int k) => retV (.int k (k.wrap n))
      | _ => .fail
    | none => .fail
  | .string s => match P.underlying src, P.underlying dst with
    | some .string, some .string => retV (.string s)
    | some .string, some (.slice e) => bif isByte P e then convBytes id s else .fail
    | _, _ => .fail
  | .slice a len _ => match P.underlying src, P.underlying dst with
    | some (.slice e), some .string => bif isByte P e then convStr len a else .fail
    | _, _ => .fail
  | _ => .fail

def capRoom (need bytes : Nat) : Bool := Nat.ble ((2 * need + 1024) * bytes) 281474976710656

def argCells (size : Nat) (x : Value) (k : Nat → List Value → AM ANext) : AM ANext :=
  match x with
  | .slice a n _ => match a with
    | none => k 0 []
    | some a => bif okAt a then aCells a.block a.off (Nat.mul n size) (k n) else .fail
  | .string s => k s.size (valsOfBytes s)
  | _ => .fail

def appendTo (id size : Nat) (base : Option Addr) (len c n : Nat) (new : List Value) : AM ANext :=
  match base with
  | none => bif Nat.beq len 0 then .new (.cells new true) (retV (sl id n size)) else .fail
  | some a => .get a.block fun
      | .cells cs rw =>
        bif okAt a && rw && Nat.beq c size then
          match takeCells cs a.off (len * size) with
          | some old => .kill a.block <| .new (.cells (old ++ new) true) (retV (sl id (len + n) size))
          | none => .fail
        else .fail
      | _ => .fail

def zeroFits (P : Program) (t : TypeId) (n : Nat) : Bool :=
  match aZero P t with
  | some z => Nat.beq z.size n
  | none => false
def appendOK (P : Program) (elem : TypeId) (inf : TypeInfo) (len n : Nat) (new : List Value) : Bool :=
  !(Nat.beq inf.size 0) && Nat.ble (len + n) 70368744177664 && new.all notAgg && Nat.beq new.length (n * inf.size) && capRoom (len + n) inf.bytes && zeroFits P elem inf.size

def oAppend (P : Program) (id : Nat) (argTypes : Array TypeId) (args : Array Value) : AM ANext :=
  match argTypes[0]?, argTypes[1]? with
  | some st, some xt => match P.underlying st, P.underlying xt with
    | some (.slice elem), some xd => match xd with
      | .int _ => .fail
      | _ => match P.info? elem, args[0]?, args[1]? with
        | some inf, some s, some x => match s with
          | .slice base len c => argCells inf.size x fun n new =>
              bif Nat.beq n 0 then retV s else
              bif appendOK P elem inf len n new then appendTo id inf.size base len c n new else .fail
          | _ => .fail
        | _, _, _ => .fail
    | _, _ => .fail
  | _, _ => .fail

def keyOK : TypeDesc → Value → Bool
  | .int _, .int _ _ => true
  | _, _ => false

def aFind (P : Program) (kt : TypeId) (k : Value) (es : List MapEntry) : Option (Option (Nat × Value)) :=
  match P.underlying kt with
  | some kd => bif keyOK kd k then Instr.findNow kd k es 0 else none
  | none => none

def lookFin (P : Program) (kt el : TypeId) (k : Value) (ok : Bool) (es : List MapEntry) : AM ANext :=
  match aFind P kt k es with
  | some (some (_, v)) => retV (if ok then .tuple #[v, .bool true] else v)
  | some none => match aZeroV P el with
    | some z => retV (if ok then .tuple #[z, .bool false] else z)
    | none => .fail
  | none => .fail

def oLookup (P : Program) (t : TypeId) (x k : Value) (ok : Bool) : AM ANext :=
  match P.underlying t with
  | some (.map kt el) => match x with
    | .map r => match r with
      | none => lookFin P kt el k ok []
      | some r => .get r fun
        | .amap es => lookFin P kt el k ok es
        | _ => .fail
    | _ => .fail
  | _ => .fail

def mapPut (P : Program) (kt : TypeId) (r : Nat) (k v : Value) (es : List MapEntry) : AM ANext :=
  match aFind P kt k es with
  | some (some (i, _)) => .set r (.amap (es.modify i fun e => { e with key := k, val := v })) (.ret .skip)
  | some none => .set r (.amap (es ++ [{ key := k, val := v, born := 0 }])) (.ret .skip)
  | none => .fail

def oMapUpdate (P : Program) (t : TypeId) (m k v : Value) : AM ANext :=
  match P.underlying t with
  | some (.map kt _) => match m with
    | .map (some r) => .get r fun
      | .amap es => mapPut P kt r k v es
      | _ => .fail
    | _ => .fail
  | _ => .fail

def oDelete (P : Program) (argTypes : Array TypeId) (args : Array Value) : AM ANext :=
  match argTypes[0]?, args[0]?, args[1]? with
  | some t, some m, some k =>
    match P.underlying t with
    | some (.map kt _) => match m with
      | .map (some r) => .get r fun
        | .amap es => match aFind P kt k es with
          | some (some (i, _)) => .set r (.amap (es.eraseIdx i)) (retV (.tuple #[]))
          | some none => .set r (.amap es) (retV (.tuple #[]))
          | none => .fail
        | _ => .fail
      | _ => .fail
    | _ => .fail
  | _, _, _ => .fail

def lenOf1 (d : TypeDesc) (x : Value) : AM ANext :=
  match d with
  | .string => match x with
    | .string s => retV (goInt s.size)
    | _ => .fail
  | .array n _ => retV (goInt n)
  | .slice _ => match x with
    | .slice _ n _ => retV (goInt n)
    | _ => .fail
  | .map _ _ => match x with
    | .map r => match r with
      | none => retV (goInt 0)
      | some r => .get r fun
        | .amap es => retV (goInt es.length)
        | _ => .fail
    | _ => .fail
  | _ => .fail
def oLen (P : Program) (argTypes : Array TypeId) (args : Array Value) : AM ANext :=
  match argTypes[0]?, args[0]? with
  | some t, some x => match P.underlying t with
    | some d => lenOf1 d x
    | none => .fail
  | _, _ => .fail

def aMin2 (x y : Value) : Option Value :=
  match x with
  | .int k a => match y with
    | .int _ b => some (.int k (bif decide (b < a) then b else a))
    | _ => none
  | _ => none
def aMax2 (x y : Value) : Option Value :=
  match x with
  | .int k a => match y with
    | .int _ b => some (.int k (bif decide (a < b) then b else a))
    | _ => none
  | _ => none
def aFoldl (f : Value → Value → Option Value) : Value → List Value → Option Value
  | x, [] => some x
  | x, y :: l => match f x y with
    | some z => aFoldl f z l
    | none => none
def aFold (f : Value → Value → Option Value) : List Value → Option Value
  | [] => none
  | x :: l => aFoldl f x l

def natOf : Value → Option Nat
  | .int k n => match k with
    | .i64 => match n with
      | .ofNat m => some m
      | .negSucc _ => none
    | _ => none
  | _ => none

def repCells (n : Nat) (z : List Value) : List Value := (List.replicate n z).flatten

def oMakeSlice (P : Program) (id : Nat) (t : TypeId) (l c : Value) : AM ANext :=
  match P.underlying t with
  | some (.slice elem) => match P.info? elem, aZero P elem with
    | some inf, some z => match natOf l, natOf c with
      | some n, some m =>
        bif Nat.beq n m && Nat.ble (inf.bytes * n) 70368744177664 && Nat.ble n 70368744177664 && Nat.beq z.size inf.size then
          .new (.cells (repCells n z.toList) true) (retV (sl id n inf.size))
        else .fail
      | _, _ => .fail
    | _, _ => .fail
  | _ => .fail

def aPlaces (P : Program) (fs : Array Field) : Array (Nat × Nat) := fs.map fun f => (f.offset, P.cellsOf f.type)

def oBuild (P : Program) (t : TypeId) (parts : List (Nat × Value)) : AM ANext :=
  match aZero P t with
  | some z => match P.underlying t with
    | some (.struct fs) =>
      bif fs.all fun f => (P.info? f.type).isSome then retO ((Instr.fill ((aPlaces P fs)[·]?) z parts).map Value.agg) else .fail
    | some (.array _ e) => match P.info? e with
      | some inf => retO ((Instr.fill (fun i => some (i * inf.size, inf.size)) z parts).map Value.agg)
      | none => .fail
    | _ => .fail
  | none => .fail

def oBuildSlice (P : Program) (id : Nat) (t : TypeId) (len : Nat) (parts : List (Nat × Value)) : AM ANext :=
  match P.underlying t with
  | some (.slice elem) => match P.info? elem, aZero P elem with
    | some inf, some z =>
      bif Nat.ble (len * inf.size) 1048576 && Nat.beq z.size inf.size then
        match Instr.fill (fun i => some (i * inf.size, inf.size)) (repCells len z.toList).toArray parts with
        | some cs => .new (.cells cs.toList true) (retV (sl id len inf.size))
        | none => .fail
      else .fail
    | _, _ => .fail
  | _ => .fail

def aFieldAddr (P : Program) (s : TypeId) (x : Value) (f : Nat) : Option Value :=
  match addrOf x with
  | some a => match P.underlying s with
    | some (.struct fs) => match fs[f]? with
      | some f => match P.info? f.type with
        | some inf => bif Nat.beq inf.size 0 then none else some (.pointer (some ⟨a.block, Nat.add a.off f.offset, none⟩))
        | none => none
      | none => none
    | _ => none
  | none => none

def aField (P : Program) (t : TypeId) (x : Value) (f : Nat) : Option Value :=
  match x with
  | .agg cs => match P.underlying t with
    | some (.struct fs) => match fs[f]? with
      | some f => aPart P f.type cs f.offset
      | none => none
    | _ => none
  | _ => none

def elemAddr (a : Addr) (s : Nat) (k : Option Nat) : Option Value :=
  match k with
  | some k => bif okAt a then some (.pointer (some ⟨a.block, Nat.add a.off (Nat.mul k s), none⟩)) else none
  | none => none

def aIndexAddr (P : Program) (t : TypeId) (x ix : Value) : Option Value :=
  match intOfV ix with
  | some i => match P.underlying t with
    | some (.slice e) => match P.info? e with
      | some inf => match x with
        | .slice (some a) len _ => elemAddr a inf.size (aIdx i len)
        | _ => none
      | none => none
    | some (.array n e) => match P.info? e with
      | some inf => match addrOf x with
        | some a => elemAddr a inf.size (aIdx i n)
        | none => none
      | none => none
    | _ => none
  | none => none

def byteAt (s : ByteArray) (k : Option Nat) : Option Value :=
  match k with
  | some k => match s.data.toList[k]? with
    | some b => some (.int .u8 b.toNat)
    | none => none
  | none => none

def aIndex (P : Program) (t : TypeId) (x ix : Value) : Option Value :=
  match intOfV ix with
  | some i => match P.underlying t with
    | some (.array n e) => match x with
      | .agg cs => match P.info? e with
        | some inf => match aIdx i n with
          | some k => aPart P e cs (k * inf.size)
          | none => none
        | none => none
      | _ => none
    | some .string => match x with
      | .string s => byteAt s (aIdx i s.size)
      | _ => none
    | _ => none
  | none => none

def assertNo (P : Program) (asserted : TypeId) (ok : Bool) : Option Value :=
  bif ok then (aZeroV P asserted).map fun z => .tuple #[z, .bool false] else none
def aTypeAssert (P : Program) (x : Value) (asserted : TypeId) (ok : Bool) : Option Value :=
  match P.underlying asserted with
  | none | some (.interface _) => none
  | some _ => match x with
    | .iface t v => bif Nat.beq t asserted then some (bif ok then .tuple #[v, .bool true] else v) else assertNo P asserted ok
    | .nilIface => assertNo P asserted ok
    | _ => none

def oEnter (P : Program) (f : FuncId) (args : Array Value) : AM ANext :=
  match P.funcs[f]? with
  | some fn => bif fn.body.isSome then .ret (.enter f args) else .fail
  | none => .fail

def panicV : Option Value → AM ANext
  | some (.iface t x) => .ret (.panic (.iface t x))
  | _ => .fail

def callBuiltin (P : Program) (id : Nat) (b : Builtin) (types : Array TypeId) (args : Array Value) : AM ANext :=
  match b with
  | .append => oAppend P id types args
  | .len => oLen P types args
  | .min => retO (aFold aMin2 args.toList)
  | .max => retO (aFold aMax2 args.toList)
  | .delete => oDelete P types args
  | .panic => panicV args[0]?
  | _ => .fail

def callValue (P : Program) (f : Value) (args : Array Value) : AM ANext :=
  match f with
  | .func fn first captured => match fn with
    | .func f => oEnter P f (first ++ args ++ captured)
    | _ => .fail
  | _ => .fail

def oCall (P : Program) (id : Nat) (ev : Operand → Value) (c : Call) : AM ANext :=
  match c.callee with
  | .builtin b => callBuiltin P id b c.argTypes (c.args.map ev)
  | .value f => callValue P (ev f) (c.args.map ev)
  | .invoke _ _ => .fail

def deferV (f : Value) (args : Array Value) : AM ANext :=
  match f with
  | .func fn first captured => match fn with
    | .func f => .ret (.defer { target := .fn (.func f) captured, args := first ++ args })
    | _ => .fail
  | _ => .fail
def oDefer (ev : Operand → Value) (c : Call) : AM ANext :=
  match c.callee with
  | .value f => deferV (ev f) (c.args.map ev)
  | _ => .fail

def oPick (ev : Operand → Value) (c a b : Operand) : AM ANext :=
  match ev c with
  | .bool t => retV (bif t then ev a else ev b)
  | _ => .fail
def oNil (x : Value) : AM ANext :=
  match x with
  | .pointer (some a) => retV (.pointer (some a))
  | .func fn a b => match fn with
    | .func f => retV (.func (.func f) a b)
    | _ => .fail
  | _ => .fail
def oIface (P : Program) (t : TypeId) (x : Value) : AM ANext :=
  match P.underlying t with
  | none | some (.interface _) => .fail
  | some _ => retV (.iface t x)
def oFunc (fn : Fn) (first cap : Array Value) : AM ANext :=
  match fn with
  | .func f => retV (.func (.func f) first cap)
  | _ => .fail
def oMap (id : Nat) (r : Option Operand) : AM ANext :=
  match r with
  | none => .new (.amap []) (retV (.map (some id)))
  | some _ => .fail
def oExtract (x : Value) (i : Nat) : AM ANext :=
  match x with
  | .tuple vs => retO vs[i]?
  | _ => .fail

def partsOf (ev : Operand → Value) (ps : Array (Nat × Operand)) : List (Nat × Value) := (ps.map fun (i, x) => (i, ev x)).toList

def aOp (P : Program) (id : Nat) (ev : Operand → Value) (o : Op) : AM ANext :=
  match o with
  | .move x => retV (ev x)
  | .assign x => retV (ev x)
  | .pick c a b => oPick ev c a b
  | .alloc t => oAlloc P id t
  | .box _ x => oBox id (ev x).cells
  | .build t ps => oBuild P t (partsOf ev ps)
  | .buildSlice t n ps => oBuildSlice P id t n (partsOf ev ps)
  | .load t a => oLoad P t (ev a)
  | .store t a x => oStore P t (ev a) (ev x)
  | .nilCheck x => oNil (ev x)
  | .binOp op t x y _ => retO (aBin P op t (ev x) (ev y))
  | .unOp op _ x => retO (aUn op (ev x))
  | .convert s d x => oConvert P id s d (ev x)
  | .makeInterface t x => oIface P t (ev x)
  | .makeFunc fn first cap => oFunc fn (first.map ev) (cap.map ev)
  | .makeMap _ r => oMap id r
  | .makeSlice t l c => oMakeSlice P id t (ev l) (ev c)
  | .slice t x lo hi mx => retO (aSlice P t (ev x) (lo.map ev) (hi.map ev) (mx.map ev))
  | .fieldAddr s x f => retO (aFieldAddr P s (ev x) f)
  | .field t x f => retO (aField P t (ev x) f)
  | .indexAddr t x i => retO (aIndexAddr P t (ev x) (ev i))
  | .index t x i => retO (aIndex P t (ev x) (ev i))
  | .lookup t x i ok => oLookup P t (ev x) (ev i) ok
  | .mapUpdate t m k x => oMapUpdate P t (ev m) (ev k) (ev x)
  | .insert t m k x => oMapUpdate P t (ev m) (ev k) (ev x)
  | .typeAssert x _ t ok => retO (aTypeAssert P (ev x) t ok)
  | .extract t i => oExtract (ev t) i
  | .call c => oCall P id ev c
  | .defer c => oDefer ev c
  | .panic x => panicV (some (ev x))
  | _ => .fail

/-- The slots of a frame: n of them, d rows deep. -/
structure BAct where
  n : Nat
  d : Nat
  tmps : Tr Value
  defers : List Deferred

def orUndef : Option Value → Value
  | some v => v
  | none => undef
def BAct.slot (a : BAct) (t : Nat) : Value :=
  BAct.rec (motive := fun _ => Value) (fun n _ l _ => sel (Nat.blt t n) (orUndef (Tr.get l t)) undef) a
def BAct.eval (a : BAct) : Operand → Value
  | .tmp t => a.slot t
  | .const v => v
  | .global _ => undef
  | .func f => .func (.func f) #[] #[]
def BAct.set (a : BAct) (t : Nat) (v : Value) : BAct :=
  BAct.rec (motive := fun _ => BAct) (fun n d l ds => sel (Nat.blt t n) ⟨n, d, Tr.put d l t (.leaf v), ds⟩ ⟨n, d, l, ds⟩) a
def BAct.put (a : BAct) (dst : Option Tmp) (v : Value) : BAct :=
  match dst with
  | some d => a.set d v
  | none => a
def BAct.later (a : BAct) (d : Deferred) : BAct := ⟨a.n, a.d, a.tmps, d :: a.defers⟩
def depthOf (n : Nat) : Nat := bif Nat.ble n 16 then 4 else bif Nat.ble n 64 then 6 else 9
def setAll : Nat → List Value → BAct → BAct
  | _, [], a => a
  | i, v :: l, a => setAll (Nat.succ i) l (a.set i v)
def BAct.start (n : Nat) (args : List Value) : BAct := setAll 0 args ⟨n, depthOf n, .nil, []⟩
def byielded (ops : Array Oper) (a : BAct) (j : Nat) : Option Bool :=
  match ops[j]? with
  | some o => match o.dst with
    | some d => match a.slot d with
      | .bool b => some b
      | _ => none
    | none => none
  | none => none
def bwanted (ops : Array Oper) (a : BAct) (o : Oper) : Bool :=
  match o.guard with
  | none => true
  | some (j, want) => match byielded ops a j with
    | some b => b == want
    | none => false

/-- What a call comes to. -/
inductive AEnd where
  | returned (v : Value)
  | panicked (chain : List PanicEntry)

abbrev CodeRun := Code → BAct → AH → Option (Exit × BAct × AH)

/-- Functions whose call is told by a table, and deferred calls that do nothing where nothing panics. -/
structure Env where
  P : Program
  tab : FuncId → Option (List Value → Nat → AM Value)
  quietD : FuncId → Nat → Bool

def cell1 (agg : Bool) (l : List Value) : AM Value :=
  bif agg then .ret (.agg l.toArray) else
  match l with
  | [v] => .ret v
  | _ => .fail
def aLoadV (P : Program) (t : TypeId) (x : Value) : AM Value :=
  match addrOf x with
  | some a => match shapeOf P t with
    | some (agg, n) => .get a.block fun
      | .cells c _ => match takeCells c a.off n with
        | some l => cell1 agg l
        | none => .fail
      | _ => .fail
    | none => .fail
  | none => .fail
def aResults (P : Program) (a : BAct) : List ResultVar → AM (List Value)
  | [] => .ret []
  | r :: rs => (match r with
    | .tmp t => AM.ret (a.slot t)
    | .cell x t => aLoadV P t (a.slot x)).bind fun v => (aResults P a rs).bind fun vs => .ret (v :: vs)

def packed : List Value → Value
  | [v] => v
  | vs => .tuple vs.toArray

/-- The deferred calls behind a return: only those that do nothing. -/
def quietDefers (E : Env) : List Deferred → Bool
  | [] => true
  | d :: ds => (match d.target with
    | .fn (.func f) cap => E.quietD f (Nat.add d.args.size cap.size)
    | _ => false) && quietDefers E ds

def finish (E : Env) (fn : Func) (a : BAct) (h : AH) : Option (AEnd × AH) :=
  bif quietDefers E a.defers then
    match (aResults E.P a fn.results.toList).run 0 h with
    | some (vs, h2) => some (.returned (packed vs), h2)
    | none => none
  else none
def finishPanic (a : BAct) (ch : List PanicEntry) (h : AH) : Option (AEnd × AH) :=
  match a.defers with
  | [] => some (.panicked ch, h)
  | _ => none

def callEnd (E : Env) (fn : Func) : Option (Exit × BAct × AH) → Option (AEnd × AH)
  | some (.normal, a, h1) => finish E fn a h1
  | some (.ret, a, h1) => finish E fn a h1
  | some (.panic ch, a, h1) => finishPanic a ch h1
  | _ => none

def bodyF (E : Env) (ih : CodeRun) (fn : Func) (args : List Value) (h : AH) : Option (AEnd × AH) :=
  match fn.body with
  | some c => bif Nat.ble fn.ntmps 512 && Nat.ble args.length fn.ntmps then
      callEnd E fn (ih c (BAct.start fn.ntmps args) h)
    else none
  | none => none

def tabF (r : List Value → Nat → AM Value) (args : List Value) (h : AH) : Option (AEnd × AH) :=
  bif Nat.blt h.next most then
    match (r args h.next).run h.next ⟨h.t, h.next + 1, h.log⟩ with
    | some (v, h1) => some (.returned v, h1)
    | none => none
  else none

def callF (E : Env) (ih : CodeRun) (f : FuncId) (args : List Value) (h : AH) : Option (AEnd × AH) :=
  match E.tab f with
  | some r => tabF r args h
  | none => match E.P.funcs[f]? with
    | some fn => bodyF E ih fn args h
    | none => none

/-- What the walk may look at: slots, functions, and constants without addresses. -/
def operandOK : Operand → Bool
  | .const v => plainV v
  | .global _ => false
  | _ => true
def opOK (o : Op) : Bool := o.operands.toList.all operandOK

/-- What a step comes to. -/
inductive SR where
  | next (a : BAct) (h : AH)
  | stop (e : Exit) (a : BAct) (h : AH)

def finCall (o : Oper) (a : BAct) : Option (AEnd × AH) → Option SR
  | none => none
  | some (r, h2) => match r with
    | .returned v => some (.next (a.put o.dst v) h2)
    | .panicked ch => some (.stop (.panic ch) a h2)

def fin (E : Env) (ih : CodeRun) (o : Oper) (a : BAct) (x : ANext) (h1 : AH) : Option SR :=
  match x with
  | .value v => some (.next (a.put o.dst v) h1)
  | .skip => some (.next (a.put o.dst undef) h1)
  | .defer d => some (.next ((a.later d).put o.dst undef) h1)
  | .panic v => some (.stop (.panic [{ v, recovered := false }]) a h1)
  | .enter f args => finCall o a (callF E ih f args.toList h1)

def stepOp (E : Env) (ih : CodeRun) (id : Nat) (o : Oper) (a : BAct) (h : AH) : Option SR :=
  match opOK o.op with
  | false => none
  | true => match (aOp E.P id a.eval o.op).run id h with
    | none => none
    | some (x, h1) => fin E ih o a x h1

/-- The operations in the order of the text. -/
def runL (E : Env) (ih : CodeRun) (ops : Array Oper) (base : Nat) : List (Nat × Oper) → BAct → AH → Option (Exit × BAct × AH)
  | [], a, h => some (.normal, a, h)
  | (i, o) :: rest, a, h => match bwanted ops a o with
    | false => runL E ih ops base rest (a.put o.dst undef) h
    | true => match stepOp E ih (Nat.add base i) o a h with
      | none => none
      | some r => match r with
        | .next a h => runL E ih ops base rest a h
        | .stop e a h => some (e, a, h)

def numbered : Nat → List Oper → List (Nat × Oper)
  | _, [] => []
  | i, o :: l => (i, o) :: numbered (Nat.succ i) l

/-! A region that draws its order. -/
/-- Sets of numbers, as numbers. -/
def bitN (m i : Nat) : Bool := Nat.beq (Nat.land (Nat.shiftRight m i) 1) 1
def oneN (i : Nat) : Nat := Nat.shiftLeft 1 i
def memN (i : Nat) : List Nat → Bool
  | [] => false
  | j :: l => match Nat.beq i j with
    | true => true
    | false => memN i l

/-- What an operation that only reads and makes gives: the value, what it read, and what it made. -/
def AM.look {α : Type} : AM α → AH → Option (α × List Nat × Option AObj)
  | .ret a, _ => some (a, [], none)
  | .get i k, h => match h.get i with
    | some o => match (k o).look h with
      | some (a, l, n) => some (a, i :: l, n)
      | none => none
    | none => none
  | .new o k, h => match k.look h with
    | some (a, l, n) => match n with
      | none => some (a, l, some o)
      | some _ => none
    | none => none
  | _, _ => none

/-- Does an operation only read and make? -/
def floats : Op → Bool
  | .move _ | .pick .. | .alloc _ | .box .. | .build .. | .buildSlice .. | .load .. | .nilCheck _ | .binOp .. | .unOp .. | .convert .. | .makeInterface ..
  | .makeFunc .. | .makeMap .. | .makeSlice .. | .slice .. | .fieldAddr .. | .field .. | .indexAddr .. | .index .. | .lookup .. | .typeAssert .. | .extract .. => true
  | .call c => match c.callee with
    | .builtin b => match b with
      | .len | .min | .max => true
      | _ => false
    | _ => false
  | _ => false

def putNew (h : AH) (id : Nat) : Option AObj → Option AH
  | none => some h
  | some o => match h.get id with
    | some _ => none
    | none => match Nat.blt id h.next with
      | true => some (h.put id o)
      | false => none

/-- What an operation that writes or calls has done in the region: its number, how many numbers had been given before, and what it wrote. -/
structure Hist where
  i : Nat
  next : Nat
  log : List Nat

/-- What is read is none of the region's own objects but of those behind which the operation stands, and none that was written or made by one whose order is open. -/
def histOK (anc : Nat) (r : Nat) : List Hist → Bool
  | [] => true
  | y :: l => (bitN anc y.i || (Nat.blt r y.next && !memN r y.log)) && histOK anc r l
def readOK (base n : Nat) (anc : Nat) (hist : List Hist) (r : Nat) : Bool :=
  (Nat.blt r base || Nat.ble (Nat.add base n) r || bitN anc (Nat.sub r base)) && histOK anc r hist
def readsOK (base n : Nat) (anc : Nat) (hist : List Hist) : List Nat → Bool
  | [] => true
  | r :: l => readOK base n anc hist r && readsOK base n anc hist l

/-- A walk through a region that draws its order. -/
structure DS where
  a : BAct
  h : AH
  hist : List Hist

def stepFloat (E : Env) (base n : Nat) (anc : Nat) (i : Nat) (o : Oper) (s : DS) : Option DS :=
  match opOK o.op with
  | false => none
  | true => match (aOp E.P (Nat.add base i) s.a.eval o.op).look s.h with
    | none => none
    | some (x, reads, m) => match x with
      | .value v => match readsOK base n anc s.hist reads with
        | true => match putNew s.h (Nat.add base i) m with
          | some h1 => some ⟨s.a.put o.dst v, h1, s.hist⟩
          | none => none
        | false => none
      | _ => none

def stepChain (E : Env) (ih : CodeRun) (base i : Nat) (o : Oper) (s : DS) : Option DS :=
  match stepOp E ih (Nat.add base i) o s.a ⟨s.h.t, s.h.next, []⟩ with
  | some (.next a1 h1) => some ⟨a1, ⟨h1.t, h1.next, []⟩, ⟨i, s.h.next, h1.log⟩ :: s.hist⟩
  | _ => none

def bindOn (o : Oper) : List Nat := (o.after.toList.filter (Region.binds .any)).map (·.on)
/-- Of each operation, those behind which it stands. -/
def ancMask (acc : List Nat) : List Nat → Nat
  | [] => 0
  | e :: l => Nat.lor (Nat.lor (oneN e) (acc.getD e 0)) (ancMask acc l)
def ancsGo : List Oper → List Nat → List Nat
  | [], acc => acc
  | o :: l, acc => ancsGo l (acc ++ [ancMask acc (bindOn o)])
def ancs (ops : Array Oper) : List Nat := ancsGo ops.toList []

def stepD (E : Env) (ih : CodeRun) (ops : Array Oper) (al : List Nat) (base : Nat) (i : Nat) (s : DS) : Option DS :=
  match ops[i]? with
  | none => none
  | some o => match bwanted ops s.a o with
    | false => some ⟨s.a.put o.dst undef, s.h, s.hist⟩
    | true => match floats o.op with
      | true => stepFloat E base ops.size (al.getD i 0) i o s
      | false => stepChain E ih base i o s

def runD (E : Env) (ih : CodeRun) (ops : Array Oper) (al : List Nat) (base : Nat) : List Nat → DS → Option DS
  | [], s => some s
  | i :: l, s => match stepD E ih ops al base i s with
    | some s1 => runD E ih ops al base l s1
    | none => none

def isF (ops : Array Oper) (i : Nat) : Bool :=
  match ops[i]? with
  | some o => floats o.op
  | none => false

/-- The order in which a region is walked: each operation that writes or calls, in the order of the text, ahead of it those behind which it stands; the others at the end. -/
def planGo (ops : Array Oper) : List Nat → List Nat → List Nat → Nat → List Nat
  | [], _, done, m => done ++ (List.range ops.size).filter fun i => !bitN m i
  | i :: l, al, done, m => match isF ops i with
    | true => planGo ops l al.tail done m
    | false => planGo ops l al.tail (done ++ (((List.range i).filter fun j => bitN (al.headD 0) j && !bitN m j) ++ [i])) (Nat.lor (Nat.lor m (al.headD 0)) (oneN i))
def planOf (ops : Array Oper) (al : List Nat) : List Nat := planGo ops (List.range ops.size) al [] 0

def downOK (ops : Array Oper) : Bool := (numbered 0 ops.toList).all fun (i, o) => (bindOn o).all fun e => Nat.blt e i
/-- An operation: its number, what it gives, what it looks at. -/
structure Info where
  i : Nat
  d : Nat
  k : Nat
def dstMask (o : Oper) : Nat :=
  match o.dst with
  | some d => oneN d
  | none => 0
def maskOf : List Nat → Nat
  | [] => 0
  | i :: l => Nat.lor (oneN i) (maskOf l)
/-- Those of the past that are open: what they give, what they look at. -/
def openD (m : Nat) : List Info → Nat
  | [] => 0
  | x :: l => bif bitN m x.i then Nat.lor x.d (openD m l) else openD m l
def openK (m : Nat) : List Info → Nat
  | [] => 0
  | x :: l => bif bitN m x.i then Nat.lor x.k (openK m l) else openK m l
/-- An operation behind those of the past: none of them stands behind it; if it does not stand behind all of them, then it only reads or makes, and neither it nor the others look at what the other gives. -/
def openOK (o : Oper) (x : Info) (m : Nat) (past : List Info) : Bool :=
  Nat.beq m 0 || (floats o.op && Nat.beq (Nat.land (openD m past) (Nat.lor x.k x.d)) 0 && Nat.beq (Nat.land x.d (openK m past)) 0)
def checkGo (ops : Array Oper) (al : List Nat) : List Nat → Nat → List Info → Bool
  | [], _, _ => true
  | b :: l, seen, past => match ops[b]? with
    | none => false
    | some o => !bitN seen b && Nat.beq (Nat.land (al.getD b 0) seen) (al.getD b 0) && openOK o ⟨b, dstMask o, maskOf (o.looksAt ops)⟩ (Nat.xor seen (al.getD b 0)) past
        && checkGo ops al l (Nat.lor seen (oneN b)) (⟨b, dstMask o, maskOf (o.looksAt ops)⟩ :: past)
def planOK (ops : Array Oper) (al : List Nat) (l : List Nat) : Bool :=
  Nat.beq l.length ops.size && downOK ops && checkGo ops al l 0 []

/-- May the region be walked in the order of its plan? -/
def planned (ops : Array Oper) : Bool := planOK ops (ancs ops) (planOf ops (ancs ops))
def plansIn : Code → Bool
  | .seq x y => plansIn x && plansIn y
  | .cond _ x y => plansIn x && plansIn y
  | .block _ x => plansIn x
  | .loop x => plansIn x
  | .scope x => plansIn x
  | .region _ ops draw => !draw || planned ops
  | _ => true

def histLog : List Hist → List Nat → List Nat
  | [], log => log
  | y :: l, log => y.log ++ histLog l log
def endD (log : List Nat) : Option DS → Option (Exit × BAct × AH)
  | some s => some (.normal, s.a, ⟨s.h.t, s.h.next, histLog s.hist log⟩)
  | none => none

def runRegion (E : Env) (ih : CodeRun) (ops : Array Oper) (draw : Bool) (a : BAct) (h : AH) : Option (Exit × BAct × AH) :=
  match Nat.ble (Nat.add h.next ops.size) most with
  | false => none
  | true => match draw with
    | false => runL E ih ops h.next (numbered 0 ops.toList) a ⟨h.t, Nat.add h.next ops.size, h.log⟩
    | true => endD h.log (runD E ih ops (ancs ops) h.next (planOf ops (ancs ops)) ⟨a, ⟨h.t, Nat.add h.next ops.size, []⟩, []⟩)

def runSeq (ih : CodeRun) (y : Code) : Option (Exit × BAct × AH) → Option (Exit × BAct × AH)
  | none => none
  | some (e, a, h) => match e with
    | .normal => ih y a h
    | _ => some (e, a, h)
def runBlock (id : Nat) : Option (Exit × BAct × AH) → Option (Exit × BAct × AH)
  | none => none
  | some (e, a, h) => match e with
    | .exit id' => bif Nat.beq id' id then some (.normal, a, h) else some (e, a, h)
    | _ => some (e, a, h)
def runCond (ih : CodeRun) (v : Value) (x y : Code) (a : BAct) (h : AH) : Option (Exit × BAct × AH) :=
  match v with
  | .bool t => bif t then ih x a h else ih y a h
  | _ => none

def codeStep (E : Env) (ih : CodeRun) : CodeRun := fun c a h =>
  match c with
  | .skip => some (.normal, a, h)
  | .label _ => some (.normal, a, h)
  | .seq x y => runSeq ih y (ih x a h)
  | .cond o x y => match operandOK o with
    | true => runCond ih (a.eval o) x y a h
    | false => none
  | .block id x => runBlock id (ih x a h)
  | .loop x => runSeq ih (.loop x) (ih x a h)
  | .scope x => ih x a h
  | .exit id => some (.exit id, a, h)
  | .ret => some (.ret, a, h)
  | .region _ ops draw => runRegion E ih ops draw a h
  | _ => none

def evalC (E : Env) (n : Nat) : CodeRun := Nat.rec (motive := fun _ => CodeRun) (fun _ _ _ => none) (fun _ ih => codeStep E ih) n

def evalCall (E : Env) (n : Nat) (f : FuncId) (args : List Value) (h : AH) : Option (AEnd × AH) := callF E (evalC E n) f args h

end
end Go.Ev
