import Derived.Test.YtmjofgacpgcjmaaGreatEvA
section
namespace Go.Ev
noncomputable section

/-! A walk over open terms: values whose numbers, strings and bools may be open terms; a flag tells which may be looked into. -/

/-- A number, known or open. -/
structure SN where
  lit : Bool
  n : Nat

/-- A place in an object: a known one, or in an element (of w cells) whose number is open. -/
inductive SOff where
  | c (n : Nat)
  | el (i w j : Nat)
def SOff.n : SOff → Nat
  | .c n => n
  | .el i w j => i * w + j

inductive SV where
  | bool (lit : Bool) (b : Bool)
  | int (k : IntKind) (lit : Bool) (n : Int)
  | str (lit : Bool) (s : ByteArray)
  | strL (bs : List UInt8)
  | ptr (b : Nat) (off : SOff)
  | sl (b : Nat) (off : SOff) (n : SN) (s : Nat)
  | map (r : Nat)
  | func (fn : FuncId) (a c : List SV)
  | iface (t : TypeId) (v : SV)
  | agg (l : List SV)
  | tuple (l : List SV)
  | raw (v : Value)

mutual
def SV.den : SV → Value
  | .bool _ b => .bool b
  | .int k _ n => .int k n
  | .str _ s => .string s
  | .strL bs => .string ⟨bs.toArray⟩
  | .ptr b off => .pointer (some ⟨b, off.n, none⟩)
  | .sl b off n s => .slice (some ⟨b, off.n, none⟩) n.n s
  | .map r => .map (some r)
  | .func f a c => .func (.func f) (dens a).toArray (dens c).toArray
  | .iface t v => .iface t v.den
  | .agg l => .agg (dens l).toArray
  | .tuple l => .tuple (dens l).toArray
  | .raw v => v
def dens : List SV → List Value
  | [] => []
  | v :: l => v.den :: dens l
end

/-- A field of the elements of an array whose length is open. -/
inductive SF where
  | int (k : IntKind) (f : Nat → Int)
  | bool (f : Nat → Bool)
  | str (f : Nat → ByteArray)
  | raw (v : Value)
def SF.get (f : SF) (i : Nat) : SV :=
  match f with
  | .int k f => .int k false (f i)
  | .bool f => .bool false (f i)
  | .str f => .str false (f i)
  | .raw v => .raw v
def SF.shift (f : SF) (n : Nat) : SF :=
  match f with
  | .int k f => .int k fun i => f (n + i)
  | .bool f => .bool fun i => f (n + i)
  | .str f => .str fun i => f (n + i)
  | .raw v => .raw v
def rowAt (fs : List SF) (i : Nat) : List SV := fs.map (·.get i)
def arrCells (n : Nat) (fs : List SF) : List Value := (List.range n).flatMap fun i => dens (rowAt fs i)

inductive SObj where
  | cells (l : List SV) (rw : Bool)
  | arr (n : SN) (fs : List SF) (rw : Bool)
  | raw (o : AObj)
def SObj.den : SObj → AObj
  | .cells l rw => .cells (dens l) rw
  | .arr n fs rw => .cells (arrCells n.n fs) rw
  | .raw o => o

def Tr.map {α β : Type} (g : α → β) : Tr α → Tr β
  | .nil => .nil
  | .leaf o => .leaf (g o)
  | .node l r => .node (l.map g) (r.map g)

structure SH where
  t : Tr SObj
  next : Nat
  log : List Nat
def SH.den (h : SH) : AH := ⟨h.t.map SObj.den, h.next, h.log⟩
def SH.get (h : SH) (i : Nat) : Option SObj := sel (Nat.blt i h.next) (Tr.get h.t i) none
def SH.put (h : SH) (i : Nat) (o : SObj) : SH := ⟨Tr.put deep h.t i (.leaf o), h.next, h.log⟩
def SH.set (h : SH) (i : Nat) (o : SObj) : SH := ⟨Tr.put deep h.t i (.leaf o), h.next, i :: h.log⟩
def SH.del (h : SH) (i : Nat) : SH := h.set i (.raw .dead)
def SH.empty : SH := ⟨.nil, 0, []⟩

/-- The ways through a piece of code, by the conditions that are open. -/
inductive Tree (α : Type) where
  | leaf (a : α)
  | node (c : Bool) (t f : Tree α)
  | fail
def Tree.pick {α : Type} : Tree α → Option α
  | .leaf a => some a
  | .node c t f => bif c then t.pick else f.pick
  | .fail => none
def Tree.bind {α β : Type} : Tree α → (α → Tree β) → Tree β
  | .leaf a, g => g a
  | .node c t f, g => .node c (t.bind g) (f.bind g)
  | .fail, _ => .fail

inductive SM (α : Type) where
  | ret (a : α)
  | get (i : Nat) (k : SObj → SM α)
  | set (i : Nat) (o : SObj) (k : SM α)
  | kill (i : Nat) (k : SM α)
  | new (o : SObj) (k : SM α)
  | node (c : Bool) (t f : SM α)
  | fail
namespace SM
def bind {α β : Type} : SM α → (α → SM β) → SM β
  | .ret a, f => f a
  | .get i k, f => .get i fun o => (k o).bind f
  | .set i o k, f => .set i o (k.bind f)
  | .kill i k, f => .kill i (k.bind f)
  | .new o k, f => .new o (k.bind f)
  | .node c x y, f => .node c (x.bind f) (y.bind f)
  | .fail, _ => .fail
def run {α : Type} (id : Nat) : SM α → SH → Tree (α × SH)
  | .ret a, h => .leaf (a, h)
  | .get i k, h => match h.get i with
    | some o => (k o).run id h
    | none => .fail
  | .set i o k, h => match h.get i with
    | some _ => k.run id (h.set i o)
    | none => .fail
  | .kill i k, h => match h.get i with
    | some _ => k.run id (h.del i)
    | none => .fail
  | .new o k, h => match h.get id with
    | some _ => .fail
    | none => bif Nat.blt id h.next then k.run id (h.put id o) else .fail
  | .node c x y, h => .node c (x.run id h) (y.run id h)
  | .fail, _ => .fail
end SM

/-- A test: looked into where it is known. -/
def sCond {α : Type} (lit c : Bool) (t f : SM α) : SM α := sel lit (sel c t f) (.node c t f)

structure SDef where
  fn : FuncId
  cap : List SV
  args : List SV
inductive SNext where
  | value (v : SV)
  | skip
  | enter (f : FuncId) (args : List SV)
  | defer (d : SDef)
  | panic (v : SV)

def SDef.den (d : SDef) : Deferred := { target := .fn (.func d.fn) (dens d.cap).toArray, args := (dens d.args).toArray }
def SNext.den : SNext → ANext
  | .value v => .value v.den
  | .skip => .skip
  | .enter f args => .enter f (dens args).toArray
  | .defer d => .defer d.den
  | .panic v => .panic v.den

def rv (v : SV) : SM SNext := .ret (.value v)
def rvO : Option SV → SM SNext
  | some v => rv v
  | none => .fail

/-- What is known is opened. -/
def ofV1 : Value → SV
  | .bool b => .bool true b
  | .int k n => .int k true n
  | .string s => .str true s
  | v => .raw v
def ofV : Value → SV
  | .agg a => .agg (a.toList.map ofV1)
  | v => ofV1 v
def sUndef : SV := .raw undef

def cellsS : SV → List SV
  | .agg l => l
  | .raw (.agg a) => a.toList.map ofV1
  | v => [v]
def notAggS : SV → Bool
  | .agg _ | .tuple _ => false
  | .raw v => notAgg v
  | _ => true

def takeS (l : List SV) (off n : Nat) : Option (List SV) := bif Nat.ble (Nat.add off n) l.length then some ((l.drop off).take n) else none

/-- The element whose number is open, out of known ones. -/
def pickS {α : Type} (l : List SV) (i w j n : Nat) (k : List SV → SM α) : Nat → Nat → SM α
  | 0, _ => .fail
  | m + 1, t => match takeS l (Nat.add (Nat.mul t w) j) n with
    | some c => .node (Nat.beq i t) (k c) (pickS l i w j n k m (Nat.succ t))
    | none => .fail

def rowPart (fs : List SF) (i j n : Nat) : List SV := ((rowAt fs i).drop j).take n

def readS {α : Type} (o : SObj) (off : SOff) (n : Nat) (k : List SV → SM α) : SM α :=
  match o with
  | .cells l _ => match off with
    | .c o => match takeS l o n with
      | some c => k c
      | none => .fail
    | .el i w j => pickS l i w j n k (Nat.div l.length w) 0
  | .arr len fs _ => match off with
    | .el i w j => bif Nat.beq w fs.length && Nat.ble (Nat.add j n) w then .node (Nat.blt i len.n) (k (rowPart fs i j n)) .fail else .fail
    | .c o => bif Nat.blt 0 fs.length && Nat.ble (Nat.add (Nat.mod o fs.length) n) fs.length then
        sCond len.lit (Nat.blt (Nat.div o fs.length) len.n) (k (rowPart fs (Nat.div o fs.length) (Nat.mod o fs.length) n)) .fail
      else .fail
  | .raw _ => .fail

def loadS (agg : Bool) (l : List SV) : SM SNext :=
  bif agg then rv (.agg l) else
  match l with
  | [v] => rv v
  | _ => .fail

def sLoad (P : Program) (t : TypeId) (x : SV) : SM SNext :=
  match x with
  | .ptr b off => match shapeOf P t with
    | some (agg, n) => .get b fun o => readS o off n (loadS agg)
    | none => .fail
  | _ => .fail

def putS (c : List SV) (off : Nat) (vs : List SV) : List SV := c.take off ++ (vs ++ c.drop (off + vs.length))

def SF.upd (f : SF) (i : Nat) (v : SV) : Option SF :=
  match f with
  | .int k f => match v with
    | .int k' _ n => bif decide (k = k') then some (.int k fun x => bif Nat.beq x i then n else f x) else none
    | _ => none
  | .bool f => match v with
    | .bool _ b => some (.bool fun x => bif Nat.beq x i then b else f x)
    | _ => none
  | .str f => match v with
    | .str _ s => some (.str fun x => bif Nat.beq x i then s else f x)
    | _ => none
  | .raw _ => none
def updRow (i : Nat) : List SF → Nat → List SV → Option (List SF)
  | fs, _, [] => some fs
  | [], _, _ :: _ => none
  | f :: fs, 0, v :: vs => match f.upd i v with
    | some f' => match updRow i fs 0 vs with
      | some fs' => some (f' :: fs')
      | none => none
    | none => none
  | f :: fs, j + 1, v :: vs => match updRow i fs j (v :: vs) with
    | some fs' => some (f :: fs')
    | none => none

def storeS (b : Nat) (off : SOff) (vs : List SV) (k : SM SNext) : SM SNext :=
  .get b fun
    | .cells l rw => match off with
      | .c o => bif rw && Nat.ble (Nat.add o vs.length) l.length then .set b (.cells (putS l o vs) true) k else .fail
      | .el _ _ _ => .fail
    | .arr len fs rw => match off with
      | .el i w j => bif rw && Nat.beq w fs.length && Nat.ble (Nat.add j vs.length) w then
          match updRow i fs j vs with
          | some fs' => .node (Nat.blt i len.n) (.set b (.arr len fs' true) k) .fail
          | none => .fail
        else .fail
      | .c _ => .fail
    | .raw _ => .fail

def sStore (P : Program) (t : TypeId) (x v : SV) : SM SNext :=
  match x with
  | .ptr b off => match P.info? t with
    | some inf => bif Nat.beq (cellsS v).length inf.size && (cellsS v).all notAggS then storeS b off (cellsS v) (.ret .skip) else .fail
    | none => .fail
  | _ => .fail

def zeroS (P : Program) (t : TypeId) : Option (List SV) :=
  match aZero P t with
  | some z => some (z.toList.map ofV1)
  | none => none

def sBox (id : Nat) (cs : List SV) : SM SNext := .new (.cells cs true) (rv (.ptr id (.c 0)))
def sAlloc (P : Program) (id : Nat) (t : TypeId) : SM SNext :=
  match zeroS P t with
  | some z => sBox id z
  | none => .fail

/-! Numbers. -/
def sBool (lit b : Bool) : SM SNext := rv (.bool lit b)
def sInt2 (op : BinOp) (k : IntKind) (la : Bool) (a : Int) (lb : Bool) (b : Int) : SM SNext :=
  match op with
  | .add => rv (.int k (la && lb) (k.wrap (a + b)))
  | .sub => rv (.int k (la && lb) (k.wrap (a - b)))
  | .mul => rv (.int k (la && lb) (k.wrap (a * b)))
  | .quo => sCond lb (decide (b = 0)) .fail (rv (.int k (la && lb) (k.wrap (a.tdiv b))))
  | .rem => sCond lb (decide (b = 0)) .fail (rv (.int k (la && lb) (a.tmod b)))
  | .and => rv (.int k (la && lb) (k.wrap (BitVec.ofInt k.bits a &&& BitVec.ofInt k.bits b).toNat))
  | .or => rv (.int k (la && lb) (k.wrap (BitVec.ofInt k.bits a ||| BitVec.ofInt k.bits b).toNat))
  | .xor => rv (.int k (la && lb) (k.wrap (BitVec.ofInt k.bits a ^^^ BitVec.ofInt k.bits b).toNat))
  | .andNot => rv (.int k (la && lb) (k.wrap (BitVec.ofInt k.bits a &&& ~~~BitVec.ofInt k.bits b).toNat))
  | .eql => sBool (la && lb) (a == b)
  | .neq => sBool (la && lb) (a != b)
  | .lss => sBool (la && lb) (a < b)
  | .leq => sBool (la && lb) (a ≤ b)
  | .gtr => sBool (la && lb) (a > b)
  | .geq => sBool (la && lb) (a ≥ b)
  | _ => .fail
def sShl (k : IntKind) (la : Bool) (a : Int) (lb : Bool) (b : Int) : SM SNext :=
  sCond lb (decide (b < 0)) .fail (rv (.int k (la && lb) (k.wrap (a * 2 ^ (min b.toNat k.bits)))))
def sShr (k : IntKind) (la : Bool) (a : Int) (lb : Bool) (b : Int) : SM SNext :=
  sCond lb (decide (b < 0)) .fail (rv (.int k (la && lb) (a.fdiv (2 ^ (min b.toNat k.bits)))))
def sBinInt (op : BinOp) (k : IntKind) (la : Bool) (a : Int) (k' : IntKind) (lb : Bool) (b : Int) : SM SNext :=
  match op with
  | .shl => sShl k la a lb b
  | .shr => sShr k la a lb b
  | op => bif decide (k = k') then sInt2 op k la a lb b else .fail

/-! Strings. -/
/-- The bytes of a string, and whether they may be looked into (how many they are is known then). -/
def strOf : SV → Option (Bool × ByteArray)
  | .str lit s => some (lit, s)
  | .strL bs => some (false, ⟨bs.toArray⟩)
  | _ => none
def strLen : SV → Option SN
  | .str lit s => some ⟨lit, s.size⟩
  | .strL bs => some ⟨true, bs.length⟩
  | _ => none
/-- Its bytes one by one, where how many they are is known. -/
def strBytes : SV → Option (List UInt8)
  | .str true s => some s.data.toList
  | .strL bs => some bs
  | _ => none
def sConcat (x y : SV) : SM SNext :=
  match strOf x, strOf y with
  | some (_, a), some (_, b) => match strBytes x, strBytes y with
    | some l, some m => bif Nat.ble (l.length + m.length) 9223372036854775807 then rv (.strL (l ++ m)) else .fail
    | _, _ => .node (Nat.ble (a.size + b.size) 9223372036854775807) (rv (.str false (a ++ b))) .fail
  | _, _ => .fail

/-! Equality. -/
def eqS1 (x y : SV) : Option (Bool × Bool) :=
  match x with
  | .int k la a => match y with
    | .int k' lb b => bif decide (k = k') then some (la && lb, a == b) else none
    | _ => none
  | .bool la a => match y with
    | .bool lb b => some (la && lb, a == b)
    | _ => none
  | x => match strOf x, strOf y with
    | some (la, a), some (lb, b) => some (la && lb, a == b)
    | _, _ => none
/-- Cell by cell. -/
def eqSL : List SV → List SV → Option (Bool × Bool)
  | [], [] => some (true, true)
  | x :: l, y :: m => match eqS1 x y with
    | some (a, b) => match eqSL l m with
      | some (c, d) => some (a && c, b && d)
      | none => none
    | none => none
  | _, _ => none
/-- The kinds of a type's cells, where all are numbers, bools and strings, in structs. -/
inductive KD where
  | int (k : IntKind)
  | bool
  | str
  deriving DecidableEq
def flatFs (P : Program) (g : TypeId → Option (List KD)) : List Field → Option (List KD)
  | [] => some []
  | f :: l => match flatFs P g l with
    | some r => match g f.type, P.info? f.type with
      | some m, some inf => bif f.name != "_" && Nat.beq m.length inf.size then some (m ++ r) else none
      | _, _ => none
    | none => none
def flatK (P : Program) : Nat → TypeId → Option (List KD)
  | 0, _ => none
  | d + 1, t => match P.underlying t with
    | some (.int k) => some [.int k]
    | some .bool => some [.bool]
    | some .string => some [.str]
    | some (.struct fs) => bif P.stoodInHeld t then none else flatFs P (flatK P d) fs.toList
    | _ => none
def kindOf : SV → Option KD
  | .int k _ _ => some (.int k)
  | .bool _ _ => some .bool
  | .str _ _ => some .str
  | .strL _ => some .str
  | _ => none
def fitsK : List KD → List SV → Bool
  | [], [] => true
  | k :: l, v :: m => (match kindOf v with
    | some k' => decide (k = k')
    | none => false) && fitsK l m
  | _, _ => false
/-- The fields stand one behind the other. -/
def offGo (P : Program) : List Field → Nat → Bool
  | [], _ => true
  | f :: l, o => match P.info? f.type with
    | some inf => Nat.beq f.offset o && offGo P l (Nat.add o inf.size)
    | none => false
def offsOK (P : Program) : Nat → TypeId → Bool
  | 0, _ => false
  | d + 1, t => match P.underlying t with
    | some (.struct fs) => fs.toList.all (fun f => offsOK P d f.type) && offGo P fs.toList 0
    | _ => true
def isStructT (P : Program) (t : TypeId) : Bool :=
  match P.underlying t with
  | some (.struct _) => true
  | _ => false
def eqAggS (P : Program) (t : TypeId) (l m : List SV) : Option (Bool × Bool) :=
  match flatK P 12 t with
  | some ks => bif isStructT P t && offsOK P 12 t && !(P.eqGuardType P.depth t) && fitsK ks l && fitsK ks m then eqSL l m else none
  | none => none
def isNilV : Value → Bool
  | .pointer none => true
  | .slice none _ _ => true
  | .map none => true
  | .nilFunc => true
  | _ => false
/-- Against nil. -/
def eqNilS (P : Program) (t : TypeId) (x : SV) (y : Value) : Option (Bool × Bool) :=
  match x with
  | .ptr _ _ => match P.underlying t, y with
    | some (.pointer _), .pointer none => some (true, false)
    | _, _ => none
  | .sl _ _ _ _ => match P.underlying t, y with
    | some (.slice _), .slice none _ _ => some (true, false)
    | _, _ => none
  | .map _ => match P.underlying t, y with
    | some (.map _ _), .map none => some (true, false)
    | _, _ => none
  | .func _ _ _ => match P.underlying t, y with
    | some (.func _ _ _), .nilFunc => some (true, false)
    | _, _ => none
  | .iface _ _ => match P.underlying t, y with
    | some (.interface _), .nilIface => some (true, false)
    | _, _ => none
  | .raw x => match aEq P t x y with
    | some b => some (true, b)
    | none => none
  | _ => none
def eqS (P : Program) (t : TypeId) (x y : SV) : Option (Bool × Bool) :=
  match x with
  | .agg l => match y with
    | .agg m => eqAggS P t l m
    | .raw (.agg m) => eqAggS P t l (m.toList.map ofV1)
    | _ => none
  | .bool la a => match y with
    | .bool lb b => match P.underlying t with
      | some .bool => some (la && lb, a == b)
      | _ => none
    | _ => none
  | x => match strOf x, strOf y with
    | some (la, a), some (lb, b) => some (la && lb, a.toList == b.toList)
    | _, _ => match y with
      | .raw y => eqNilS P t x y
      | _ => none
def sBinOther (P : Program) (op : BinOp) (t : TypeId) (x y : SV) : SM SNext :=
  match op with
  | .eql => match eqS P t x y with
    | some (l, b) => sBool l b
    | none => .fail
  | .neq => match eqS P t x y with
    | some (l, b) => sBool l (!b)
    | none => .fail
  | .add => sConcat x y
  | _ => .fail
def sBin (P : Program) (op : BinOp) (t : TypeId) (x y : SV) : SM SNext :=
  match x with
  | .int k la a => match y with
    | .int k' lb b => sBinInt op k la a k' lb b
    | _ => .fail
  | x => sBinOther P op t x y
def sUn (op : UnOp) (x : SV) : SM SNext :=
  match x with
  | .int k l n => match op with
    | .neg => rv (.int k l (k.wrap (0 - n)))
    | .xor => rv (.int k l (k.wrap (BitVec.ofInt k.bits (if k.signed then -1 else k.max) ^^^ BitVec.ofInt k.bits n).toNat))
    | _ => .fail
  | .bool l b => match op with
    | .not => sBool l (!b)
    | _ => .fail
  | _ => .fail

/-! Slices, rows, indices. -/
/-- An index below n. -/
def sIdx {α : Type} (li : Bool) (i : Int) (n : SN) (k : SN → SM α) : SM α :=
  sCond (li && n.lit) (decide (0 ≤ i) && Nat.blt i.toNat n.n) (k ⟨li, i.toNat⟩) .fail
/-- A bound of at most n. -/
def sBound {α : Type} (v : Option SV) (dflt n : SN) (k : SN → SM α) : SM α :=
  match v with
  | none => k dflt
  | some (.int _ li i) => sCond (li && n.lit) (decide (0 ≤ i) && Nat.ble i.toNat n.n) (k ⟨li, i.toNat⟩) .fail
  | some _ => .fail

def cutStr (x : SV) (s : ByteArray) (l h : SN) : SV :=
  sel (l.lit && h.lit && Nat.ble (Nat.sub h.n l.n) 64)
    (match strBytes x with
      | some bs => .strL ((bs.take h.n).drop l.n)
      | none => .strL ((List.range (Nat.sub h.n l.n)).map fun i => s.data.toList.getD (l.n + i) 0))
    (.str false (s.extract l.n h.n))
def sSliceStr (x : SV) (lo hi mx : Option SV) : SM SNext :=
  match mx with
  | some _ => .fail
  | none => match strOf x, strLen x with
    | some (_, s), some n => sBound hi n n fun h => sBound lo ⟨true, 0⟩ h fun l => rv (cutStr x s l h)
    | _, _ => .fail

def plusOff (off : SOff) (k : SN) (s : Nat) : Option SOff :=
  match off with
  | .c o => sel k.lit (some (.c (Nat.add o (Nat.mul k.n s)))) (sel (Nat.beq o 0) (some (.el k.n s 0)) (bif Nat.blt 0 s then some (.el (Nat.div o s + k.n) s (Nat.mod o s)) else none))
  | .el i w j => sel k.lit (bif Nat.beq s w then some (.el (i + k.n) w j) else some (.el i w (Nat.add j (Nat.mul k.n s)))) (bif Nat.beq s w then some (.el (i + k.n) w j) else none)

def sSliceSl (size : Nat) (x : SV) (lo hi mx : Option SV) : SM SNext :=
  match mx with
  | some _ => .fail
  | none => match x with
    | .sl b off n c => bif Nat.beq c size then
        sBound hi n n fun h => sBound lo ⟨true, 0⟩ h fun l => match plusOff off l size with
          | some o => rv (.sl b o ⟨l.lit && h.lit, Nat.sub h.n l.n⟩ size)
          | none => .fail
      else .fail
    | .raw (.slice none n _) => sBound hi ⟨true, n⟩ ⟨true, n⟩ fun h => sBound lo ⟨true, 0⟩ h fun _ => rv (.raw (.slice none 0 0))
    | _ => .fail
def sSlice (P : Program) (t : TypeId) (x : SV) (lo hi mx : Option SV) : SM SNext :=
  match P.underlying t with
  | some .string => sSliceStr x lo hi mx
  | some (.slice elem) => match P.info? elem with
    | some inf => sSliceSl inf.size x lo hi mx
    | none => .fail
  | _ => .fail

/-- Cells one behind the other. -/
inductive SRow where
  | lits (l : List SV)
  | arr (n : SN) (fs : List SF)
def rowS {α : Type} (o : SObj) (off : SOff) (n : SN) (size : Nat) (k : SRow → SM α) : SM α :=
  match o with
  | .cells l _ => match off with
    | .c o => bif n.lit then match takeS l o (Nat.mul n.n size) with
        | some c => k (.lits c)
        | none => .fail
      else .fail
    | .el _ _ _ => .fail
  | .arr len fs _ => bif Nat.beq size fs.length && Nat.blt 0 size then match off with
      | .c o => bif Nat.beq (Nat.mod o size) 0 then
          sCond (n.lit && len.lit) (Nat.ble (Nat.div o size + n.n) len.n) (k (.arr n (sel (Nat.beq o 0) fs (fs.map (·.shift (Nat.div o size)))))) .fail
        else .fail
      | .el i w j => bif Nat.beq w size && Nat.beq j 0 then
          .node (Nat.ble (i + n.n) len.n) (k (.arr n (fs.map (·.shift i)))) .fail
        else .fail
    else .fail
  | .raw _ => .fail

def byteSV (b : UInt8) : SV := .int .u8 false b.toNat
def byteF (s : ByteArray) : SF := .int .u8 fun i => ((s.data.toList.getD i 0).toNat : Int)
/-- The cells of what is appended. -/
def argRow {α : Type} (size : Nat) (x : SV) (k : SN → SRow → SM α) : SM α :=
  match x with
  | .sl b off n _ => .get b fun o => rowS o off n size (k n)
  | .raw (.slice none _ _) => k ⟨true, 0⟩ (.lits [])
  | x => bif Nat.beq size 1 then (match strBytes x with
    | some bs => k ⟨true, bs.length⟩ (.lits (bs.map byteSV))
    | none => match strOf x with
      | some (_, s) => k ⟨false, s.size⟩ (.arr ⟨false, s.size⟩ [byteF s])
      | none => .fail) else .fail

/-- A field out of known cells: every w-th from j on. -/
def isIntK (k : IntKind) (v : SV) : Bool :=
  match v with
  | .int k' _ _ => decide (k = k')
  | _ => false
def valInt (v : SV) : Int :=
  match v with
  | .int _ _ n => n
  | _ => 0
def isBoolK (v : SV) : Bool :=
  match v with
  | .bool _ _ => true
  | _ => false
def valBool (v : SV) : Bool :=
  match v with
  | .bool _ b => b
  | _ => false
def isStrK (v : SV) : Bool := (strOf v).isSome
def valStr (v : SV) : ByteArray :=
  match strOf v with
  | some (_, s) => s
  | none => .empty
def cellAt (l : List SV) (w j i : Nat) : SV := l.getD (Nat.add (Nat.mul i w) j) sUndef
def fieldAt (l : List SV) (w m j : Nat) : Option SF :=
  match cellAt l w j 0 with
  | .int k _ _ => bif (List.range m).all (fun i => isIntK k (cellAt l w j i)) then some (.int k fun i => valInt (cellAt l w j i)) else none
  | .bool _ _ => bif (List.range m).all (fun i => isBoolK (cellAt l w j i)) then some (.bool fun i => valBool (cellAt l w j i)) else none
  | _ => bif (List.range m).all (fun i => isStrK (cellAt l w j i)) then some (.str fun i => valStr (cellAt l w j i)) else none
def fieldsOf (l : List SV) (w m : Nat) : Nat → Option (List SF)
  | 0 => some []
  | j + 1 => match fieldsOf l w m j with
    | some fs => match fieldAt l w m j with
      | some f => some (fs ++ [f])
      | none => none
    | none => none
def SF.app (len : Nat) (f g : SF) : Option SF :=
  match f with
  | .int k f => match g with
    | .int k' g => bif decide (k = k') then some (.int k fun i => bif Nat.blt i len then f i else g (i - len)) else none
    | _ => none
  | .bool f => match g with
    | .bool g => some (.bool fun i => bif Nat.blt i len then f i else g (i - len))
    | _ => none
  | .str f => match g with
    | .str g => some (.str fun i => bif Nat.blt i len then f i else g (i - len))
    | _ => none
  | .raw _ => none
def appFs (len : Nat) : List SF → List SF → Option (List SF)
  | [], [] => some []
  | f :: l, g :: m => match f.app len g with
    | some x => match appFs len l m with
      | some r => some (x :: r)
      | none => none
    | none => none
  | _, _ => none
/-- A row as a field by field one. -/
def arrOf (size : Nat) (n : SN) (r : SRow) : Option (List SF) :=
  match r with
  | .arr _ fs => some fs
  | .lits l => fieldsOf l size n.n size
def rowObj (r : SRow) : SObj :=
  match r with
  | .lits l => .cells l true
  | .arr n fs => .arr n fs true
/-- One row behind the other. -/
def rowApp (size : Nat) (n m : SN) (x y : SRow) : Option SObj :=
  match x, y with
  | .lits a, .lits b => some (.cells (a ++ b) true)
  | .lits [], y => some (rowObj y)
  | x, y => match arrOf size n x, arrOf size m y with
    | some f, some g => match appFs n.n f g with
      | some fs => some (.arr ⟨n.lit && m.lit, n.n + m.n⟩ fs true)
      | none => none
    | _, _ => none
def appendToS (id size : Nat) (base : SV) (m : SN) (new : SRow) : SM SNext :=
  match base with
  | .raw (.slice none n _) => bif Nat.beq n 0 then .new (rowObj new) (rv (.sl id (.c 0) m size)) else .fail
  | .sl b off n c => .get b fun o => bif Nat.beq c size && (match o with
      | .cells _ rw => rw
      | .arr _ _ rw => rw
      | .raw _ => false) then
        rowS o off n size fun old => match rowApp size n m old new with
          | some x => .kill b (.new x (rv (.sl id (.c 0) ⟨n.lit && m.lit, n.n + m.n⟩ size)))
          | none => .fail
      else .fail
  | _ => .fail
def rowOK (size : Nat) (m : SN) (r : SRow) : Bool :=
  match r with
  | .lits l => l.all notAggS && m.lit && Nat.beq l.length (Nat.mul m.n size)
  | .arr _ fs => Nat.beq fs.length size && fs.all fun f => match f with
    | .raw v => notAgg v
    | _ => true
def sliceLen : SV → Option SN
  | .sl _ _ n _ => some n
  | .raw (.slice none n _) => some ⟨true, n⟩
  | _ => none
def sAppend (P : Program) (id : Nat) (argTypes : Array TypeId) (args : List SV) : SM SNext :=
  match argTypes[0]?, argTypes[1]? with
  | some st, some xt => match P.underlying st, P.underlying xt with
    | some (.slice elem), some xd => match xd with
      | .int _ => .fail
      | _ => match P.info? elem, args with
        | some inf, s :: x :: _ => match sliceLen s with
          | some len => argRow inf.size x fun m new =>
              sCond m.lit (Nat.beq m.n 0) (rv s) <|
                bif !(Nat.beq inf.size 0) && rowOK inf.size m new && zeroFits P elem inf.size then
                  sCond (len.lit && m.lit) (Nat.ble (len.n + m.n) 70368744177664 && capRoom (len.n + m.n) inf.bytes) (appendToS id inf.size s m new) .fail
                else .fail
          | none => .fail
        | _, _ => .fail
    | _, _ => .fail
  | _, _ => .fail

/-! Conversions. -/
def u8sOf : List SV → Option (List UInt8)
  | [] => some []
  | v :: l => match v with
    | .int k _ n => match k with
      | .u8 => match u8sOf l with
        | some m => some (UInt8.ofNat n.toNat :: m)
        | none => none
      | _ => none
    | _ => none
def strOfF (n : Nat) (f : Nat → Int) : ByteArray := ⟨((List.range n).map fun i => UInt8.ofNat (f i).toNat).toArray⟩
def strOfRow (r : SRow) : Option SV :=
  match r with
  | .lits l => match u8sOf l with
    | some bs => some (.strL bs)
    | none => none
  | .arr n fs => match fs with
    | [.int .u8 f] => some (.str false (strOfF n.n f))
    | _ => none
def sConvert (P : Program) (id : Nat) (src dst : TypeId) (x : SV) : SM SNext :=
  match x with
  | .int _ l n => match P.underlying src with
    | some _ => match P.underlying dst with
      | some (.int k) => rv (.int k l (k.wrap n))
      | _ => .fail
    | none => .fail
  | .sl b off n _ => match P.underlying src, P.underlying dst with
    | some (.slice e), some .string => bif isByte P e then .get b fun o => rowS o off n 1 fun r => rvO (strOfRow r) else .fail
    | _, _ => .fail
  | .raw (.slice none n _) => match P.underlying src, P.underlying dst with
    | some (.slice e), some .string => bif isByte P e && Nat.beq n 0 then rv (.strL []) else .fail
    | _, _ => .fail
  | x => match P.underlying src, P.underlying dst with
    | some .string, some .string => match strOf x with
      | some _ => rv x
      | none => .fail
    | some .string, some (.slice e) => bif isByte P e then
        match strBytes x with
        | some bs => .new (.cells (bs.map byteSV) true) (rv (.sl id (.c 0) ⟨true, bs.length⟩ 1))
        | none => match strOf x with
          | some (_, s) => .new (.arr ⟨false, s.size⟩ [byteF s] true) (rv (.sl id (.c 0) ⟨false, s.size⟩ 1))
          | none => .fail
      else .fail
    | _, _ => .fail

/-! Structs and arrays. -/
def placesOK (P : Program) (t : TypeId) : Option (Nat → Option (Nat × Nat)) :=
  match P.underlying t with
  | some (.struct fs) => bif fs.all fun f => (P.info? f.type).isSome then some ((aPlaces P fs)[·]?) else none
  | some (.array _ e) => match P.info? e with
    | some inf => some fun i => some (Nat.mul i inf.size, inf.size)
    | none => none
  | _ => none
def fillS (place : Nat → Option (Nat × Nat)) : List SV → List (Nat × SV) → Option (List SV)
  | z, [] => some z
  | z, (i, v) :: l => match place i with
    | some (off, size) => bif Nat.beq (cellsS v).length size && Nat.ble (Nat.add off size) z.length && (cellsS v).all notAggS then fillS place (putS z off (cellsS v)) l else none
    | none => none
def sBuild (P : Program) (t : TypeId) (parts : List (Nat × SV)) : SM SNext :=
  match zeroS P t, placesOK P t with
  | some z, some pl => match fillS pl z parts with
    | some l => rv (.agg l)
    | none => .fail
  | _, _ => .fail
def repS (n : Nat) (z : List SV) : List SV := (List.replicate n z).flatten
def sBuildSlice (P : Program) (id : Nat) (t : TypeId) (len : Nat) (parts : List (Nat × SV)) : SM SNext :=
  match P.underlying t with
  | some (.slice elem) => match P.info? elem, zeroS P elem with
    | some inf, some z =>
      bif Nat.ble (len * inf.size) 1048576 && Nat.beq z.length inf.size then
        match fillS (fun i => some (Nat.mul i inf.size, inf.size)) (repS len z) parts with
        | some cs => .new (.cells cs true) (rv (.sl id (.c 0) ⟨true, len⟩ inf.size))
        | none => .fail
      else .fail
    | _, _ => .fail
  | _ => .fail
def zeroF : SV → SF
  | .int k _ n => .int k fun _ => n
  | .bool _ b => .bool fun _ => b
  | .str _ s => .str fun _ => s
  | v => .raw v.den
def sMakeSlice (P : Program) (id : Nat) (t : TypeId) (l c : SV) : SM SNext :=
  match P.underlying t with
  | some (.slice elem) => match P.info? elem, zeroS P elem with
    | some inf, some z => match l with
      | .int .i64 ll n => match c with
        | .int .i64 lc m =>
          bif Nat.beq z.length inf.size then
            sCond (ll && lc) (decide (0 ≤ n) && decide (n = m) && Nat.ble (inf.bytes * n.toNat) 70368744177664 && Nat.ble n.toNat 70368744177664)
              (sel ll (.new (.cells (repS n.toNat z) true) (rv (.sl id (.c 0) ⟨true, n.toNat⟩ inf.size)))
                (.new (.arr ⟨false, n.toNat⟩ (z.map zeroF) true) (rv (.sl id (.c 0) ⟨false, n.toNat⟩ inf.size)))) .fail
          else .fail
        | _ => .fail
      | _ => .fail
    | _, _ => .fail
  | _ => .fail

def sFieldAddr (P : Program) (s : TypeId) (x : SV) (f : Nat) : SM SNext :=
  match x with
  | .ptr b off => match P.underlying s with
    | some (.struct fs) => match fs[f]? with
      | some f => match P.info? f.type with
        | some inf => bif Nat.beq inf.size 0 then .fail else rv (.ptr b (match off with
          | .c o => .c (Nat.add o f.offset)
          | .el i w j => .el i w (Nat.add j f.offset)))
        | none => .fail
      | none => .fail
    | _ => .fail
  | _ => .fail
def partS (P : Program) (t : TypeId) (cs : List SV) (off : Nat) : Option SV :=
  match shapeOf P t with
  | some (agg, n) => bif agg then (bif Nat.ble (Nat.add off n) cs.length then some (.agg ((cs.drop off).take n)) else none) else cs[off]?
  | none => none
def sField (P : Program) (t : TypeId) (x : SV) (f : Nat) : SM SNext :=
  match x with
  | .agg cs => match P.underlying t with
    | some (.struct fs) => match fs[f]? with
      | some f => rvO (partS P f.type cs f.offset)
      | none => .fail
    | _ => .fail
  | _ => .fail
def ptrTo (b : Nat) : Option SOff → SM SNext
  | some o => rv (.ptr b o)
  | none => .fail
def sIndexAddr (P : Program) (t : TypeId) (x ix : SV) : SM SNext :=
  match ix with
  | .int _ li i => match P.underlying t with
    | some (.slice e) => match P.info? e with
      | some inf => match x with
        | .sl b off n _ => sIdx li i n fun k => ptrTo b (plusOff off k inf.size)
        | _ => .fail
      | none => .fail
    | some (.array n e) => match P.info? e with
      | some inf => match x with
        | .ptr b off => sIdx li i ⟨true, n⟩ fun k => ptrTo b (plusOff off k inf.size)
        | _ => .fail
      | none => .fail
    | _ => .fail
  | _ => .fail
def byteOfS (x : SV) (k : SN) : SM SNext :=
  match strBytes x with
  | some bs => bif k.lit then (match bs[k.n]? with
      | some b => rv (byteSV b)
      | none => .fail) else rv (byteSV (bs.getD k.n 0))
  | none => match strOf x with
    | some (_, s) => rv (byteSV (s.data.toList.getD k.n 0))
    | none => .fail
def pickPart (P : Program) (e : TypeId) (cs : List SV) (s i : Nat) : Nat → Nat → SM SNext
  | 0, _ => .fail
  | m + 1, t => match partS P e cs (Nat.mul t s) with
    | some v => .node (Nat.beq i t) (rv v) (pickPart P e cs s i m (Nat.succ t))
    | none => .fail
def sIndex (P : Program) (t : TypeId) (x ix : SV) : SM SNext :=
  match ix with
  | .int _ li i => match P.underlying t with
    | some (.array n e) => match x with
      | .agg cs => match P.info? e with
        | some inf => sIdx li i ⟨true, n⟩ fun k => bif k.lit then rvO (partS P e cs (Nat.mul k.n inf.size)) else pickPart P e cs inf.size k.n n 0
        | none => .fail
      | _ => .fail
    | some .string => match strLen x with
      | some n => sIdx li i n fun k => byteOfS x k
      | none => .fail
    | _ => .fail
  | _ => .fail

def sAssertNo (P : Program) (asserted : TypeId) (ok : Bool) : SM SNext :=
  bif ok then (match aZeroV P asserted with
    | some z => rv (.tuple [ofV z, .bool true false])
    | none => .fail) else .fail
def sTypeAssert (P : Program) (x : SV) (asserted : TypeId) (ok : Bool) : SM SNext :=
  match P.underlying asserted with
  | none | some (.interface _) => .fail
  | some _ => match x with
    | .iface t v => bif Nat.beq t asserted then rv (bif ok then .tuple [v, .bool true true] else v) else sAssertNo P asserted ok
    | .raw .nilIface => sAssertNo P asserted ok
    | _ => .fail

/-! Calls. -/
def sEnter (P : Program) (f : FuncId) (args : List SV) : SM SNext :=
  match P.funcs[f]? with
  | some fn => bif fn.body.isSome then .ret (.enter f args) else .fail
  | none => .fail
def sPanicV : SV → SM SNext
  | .iface t v => .ret (.panic (.iface t v))
  | _ => .fail
def sLen (P : Program) (argTypes : Array TypeId) (args : List SV) : SM SNext :=
  match argTypes[0]?, args with
  | some t, x :: _ => match P.underlying t with
    | some .string => match strLen x with
      | some n => rv (.int .i64 n.lit n.n)
      | none => .fail
    | some (.array n _) => rv (.int .i64 true n)
    | some (.slice _) => match sliceLen x with
      | some n => rv (.int .i64 n.lit n.n)
      | none => .fail
    | _ => .fail
  | _, _ => .fail
def sMin2 (x y : SV) : Option SV :=
  match x with
  | .int k la a => match y with
    | .int _ lb b => some (.int k (la && lb) (bif decide (b < a) then b else a))
    | _ => none
  | _ => none
def sMax2 (x y : SV) : Option SV :=
  match x with
  | .int k la a => match y with
    | .int _ lb b => some (.int k (la && lb) (bif decide (a < b) then b else a))
    | _ => none
  | _ => none
def sFoldl (f : SV → SV → Option SV) : SV → List SV → Option SV
  | x, [] => some x
  | x, y :: l => match f x y with
    | some z => sFoldl f z l
    | none => none
def sFold (f : SV → SV → Option SV) : List SV → Option SV
  | [] => none
  | x :: l => sFoldl f x l
def sBuiltin (P : Program) (id : Nat) (b : Builtin) (types : Array TypeId) (args : List SV) : SM SNext :=
  match b with
  | .append => sAppend P id types args
  | .len => sLen P types args
  | .min => rvO (sFold sMin2 args)
  | .max => rvO (sFold sMax2 args)
  | .panic => match args with
    | x :: _ => sPanicV x
    | [] => .fail
  | _ => .fail
def sCallValue (P : Program) (f : SV) (args : List SV) : SM SNext :=
  match f with
  | .func fn first cap => sEnter P fn (first ++ args ++ cap)
  | _ => .fail
def sCall (P : Program) (id : Nat) (ev : Operand → SV) (c : Call) : SM SNext :=
  match c.callee with
  | .builtin b => sBuiltin P id b c.argTypes (c.args.toList.map ev)
  | .value f => sCallValue P (ev f) (c.args.toList.map ev)
  | .invoke _ _ => .fail
def sDefer (ev : Operand → SV) (c : Call) : SM SNext :=
  match c.callee with
  | .value f => match ev f with
    | .func fn first cap => .ret (.defer ⟨fn, cap, first ++ c.args.toList.map ev⟩)
    | _ => .fail
  | _ => .fail
def sPick (ev : Operand → SV) (c a b : Operand) : SM SNext :=
  match ev c with
  | .bool l t => sCond l t (rv (ev a)) (rv (ev b))
  | _ => .fail
def sNil (x : SV) : SM SNext :=
  match x with
  | .ptr b o => rv (.ptr b o)
  | .func f a b => rv (.func f a b)
  | _ => .fail
def sIface (P : Program) (t : TypeId) (x : SV) : SM SNext :=
  match P.underlying t with
  | none | some (.interface _) => .fail
  | some _ => rv (.iface t x)
def sFunc (fn : Fn) (first cap : List SV) : SM SNext :=
  match fn with
  | .func f => rv (.func f first cap)
  | _ => .fail
def sExtract (x : SV) (i : Nat) : SM SNext :=
  match x with
  | .tuple vs => rvO vs[i]?
  | _ => .fail
def partsS (ev : Operand → SV) (ps : Array (Nat × Operand)) : List (Nat × SV) := ps.toList.map fun (i, x) => (i, ev x)

def sOp (P : Program) (id : Nat) (ev : Operand → SV) (o : Op) : SM SNext :=
  match o with
  | .move x => rv (ev x)
  | .assign x => rv (ev x)
  | .pick c a b => sPick ev c a b
  | .alloc t => sAlloc P id t
  | .box _ x => sBox id (cellsS (ev x))
  | .build t ps => sBuild P t (partsS ev ps)
  | .buildSlice t n ps => sBuildSlice P id t n (partsS ev ps)
  | .load t a => sLoad P t (ev a)
  | .store t a x => sStore P t (ev a) (ev x)
  | .nilCheck x => sNil (ev x)
  | .binOp op t x y _ => sBin P op t (ev x) (ev y)
  | .unOp op _ x => sUn op (ev x)
  | .convert s d x => sConvert P id s d (ev x)
  | .makeInterface t x => sIface P t (ev x)
  | .makeFunc fn first cap => sFunc fn (first.toList.map ev) (cap.toList.map ev)
  | .makeSlice t l c => sMakeSlice P id t (ev l) (ev c)
  | .slice t x lo hi mx => sSlice P t (ev x) (lo.map ev) (hi.map ev) (mx.map ev)
  | .fieldAddr s x f => sFieldAddr P s (ev x) f
  | .field t x f => sField P t (ev x) f
  | .indexAddr t x i => sIndexAddr P t (ev x) (ev i)
  | .index t x i => sIndex P t (ev x) (ev i)
  | .typeAssert x _ t ok => sTypeAssert P (ev x) t ok
  | .extract t i => sExtract (ev t) i
  | .call c => sCall P id ev c
  | .defer c => sDefer ev c
  | .panic x => sPanicV (ev x)
  | _ => .fail
end
end Go.Ev
end
section
namespace Go.Ev
noncomputable section

structure SAct where
  n : Nat
  d : Nat
  tmps : Tr SV
  defers : List SDef

def orUndefS : Option SV → SV
  | some v => v
  | none => sUndef
def SAct.slot (a : SAct) (t : Nat) : SV :=
  SAct.rec (motive := fun _ => SV) (fun n _ l _ => sel (Nat.blt t n) (orUndefS (Tr.get l t)) sUndef) a
def SAct.eval (a : SAct) : Operand → SV
  | .tmp t => a.slot t
  | .const v => ofV v
  | .global _ => sUndef
  | .func f => .func f [] []
def SAct.set (a : SAct) (t : Nat) (v : SV) : SAct :=
  SAct.rec (motive := fun _ => SAct) (fun n d l ds => sel (Nat.blt t n) ⟨n, d, Tr.put d l t (.leaf v), ds⟩ ⟨n, d, l, ds⟩) a
def SAct.put (a : SAct) (dst : Option Tmp) (v : SV) : SAct :=
  match dst with
  | some d => a.set d v
  | none => a
def SAct.later (a : SAct) (d : SDef) : SAct := ⟨a.n, a.d, a.tmps, d :: a.defers⟩
def setAllS : Nat → List SV → SAct → SAct
  | _, [], a => a
  | i, v :: l, a => setAllS (Nat.succ i) l (a.set i v)
def SAct.start (n : Nat) (args : List SV) : SAct := setAllS 0 args ⟨n, depthOf n, .nil, []⟩
def SAct.den (a : SAct) : BAct := ⟨a.n, a.d, a.tmps.map SV.den, a.defers.map SDef.den⟩

/-- Is an operation's guard met? -/
inductive SWant where
  | yes
  | no
  | ask (d : Tmp) (c want : Bool)
  | bad
def wantV (d : Tmp) (want : Bool) (v : SV) : SWant :=
  match v with
  | .bool l b => match l with
    | true => match b == want with
      | true => .yes
      | false => .no
    | false => .ask d b want
  | .raw v => match v with
    | .bool _ => .bad
    | _ => .no
  | _ => .no
def wantS (ops : Array Oper) (a : SAct) (o : Oper) : SWant :=
  match o.guard with
  | none => .yes
  | some (j, want) => match ops[j]? with
    | some p => match p.dst with
      | some d => wantV d want (a.slot d)
      | none => .no
    | none => .no

inductive SExit where
  | normal
  | exit (id : Nat)
  | ret
  | panic (v : SV)
def SExit.den : SExit → Exit
  | .normal => .normal
  | .exit id => .exit id
  | .ret => .ret
  | .panic v => .panic [{ v := v.den, recovered := false }]
inductive SEnd where
  | returned (v : SV)
  | panicked (v : SV)
def SEnd.den : SEnd → AEnd
  | .returned v => .returned v.den
  | .panicked v => .panicked [{ v := v.den, recovered := false }]

abbrev CodeRunS := Code → SAct → SH → Tree (SExit × SAct × SH)

def cell1S (agg : Bool) (l : List SV) : SM SV :=
  bif agg then .ret (.agg l) else
  match l with
  | [v] => .ret v
  | _ => .fail
def sLoadV (P : Program) (t : TypeId) (x : SV) : SM SV :=
  match x with
  | .ptr b off => match shapeOf P t with
    | some (agg, n) => .get b fun o => readS o off n (cell1S agg)
    | none => .fail
  | _ => .fail
def sResults (P : Program) (a : SAct) : List ResultVar → SM (List SV)
  | [] => .ret []
  | r :: rs => (match r with
    | .tmp t => SM.ret (a.slot t)
    | .cell x t => sLoadV P t (a.slot x)).bind fun v => (sResults P a rs).bind fun vs => .ret (v :: vs)
def packedS : List SV → SV
  | [v] => v
  | vs => .tuple vs

def quietS (E : Env) : List SDef → Bool
  | [] => true
  | d :: ds => E.quietD d.fn (Nat.add d.args.length d.cap.length) && quietS E ds
def finishS (E : Env) (fn : Func) (a : SAct) (h : SH) : Tree (SEnd × SH) :=
  bif quietS E a.defers then
    ((sResults E.P a fn.results.toList).run 0 h).bind fun (vs, h2) => .leaf (.returned (packedS vs), h2)
  else .fail
/-- What is told of a function: what it gives; what it gives, or that it panics (false); how it recovers a panic as a deferred call. -/
inductive SEntry where
  | val (r : List SV → Nat → SM SV)
  | pan (r : List SV → Nat → SM (Bool × SV))
  | recd (q : List SV → SV → SM Unit)
/-- What is told of functions, over open terms. -/
abbrev STab := FuncId → Option SEntry
def runNewS {α : Type} (m : Nat → SM α) (h : SH) : Tree (α × SH) :=
  bif Nat.blt h.next most then (m h.next).run h.next ⟨h.t, h.next + 1, h.log⟩ else .fail
def recovS (S : STab) (d : SDef) (v : SV) (h : SH) : Tree (Unit × SH) :=
  match S d.fn with
  | some e => match e with
    | .recd q => runNewS (fun _ => q (d.args ++ d.cap) v) h
    | _ => .fail
  | none => .fail
def finishPanicS (E : Env) (S : STab) (fn : Func) (a : SAct) (v : SV) (h : SH) : Tree (SEnd × SH) :=
  match a.defers with
  | [] => .leaf (.panicked v, h)
  | [d] => (recovS S d v h).bind fun (_, h2) => ((sResults E.P a fn.results.toList).run 0 h2).bind fun (vs, h3) => .leaf (.returned (packedS vs), h3)
  | _ => .fail
def callEndS (E : Env) (S : STab) (fn : Func) (r : SExit × SAct × SH) : Tree (SEnd × SH) :=
  match r.1 with
  | .normal => finishS E fn r.2.1 r.2.2
  | .ret => finishS E fn r.2.1 r.2.2
  | .panic v => finishPanicS E S fn r.2.1 v r.2.2
  | _ => .fail
def bodyFS (E : Env) (S : STab) (ih : CodeRunS) (fn : Func) (args : List SV) (h : SH) : Tree (SEnd × SH) :=
  match fn.body with
  | some c => bif Nat.ble fn.ntmps 512 && Nat.ble args.length fn.ntmps then (ih c (SAct.start fn.ntmps args) h).bind (callEndS E S fn) else .fail
  | none => .fail

def endS (p : Bool × SV) : SEnd := sel p.1 (.returned p.2) (.panicked p.2)
def ptabFS (r : List SV → Nat → SM (Bool × SV)) (args : List SV) (h : SH) : Tree (SEnd × SH) :=
  (runNewS (r args) h).bind fun (p, h1) => .leaf (endS p, h1)
def tabFS (r : List SV → Nat → SM SV) (args : List SV) (h : SH) : Tree (SEnd × SH) :=
  bif Nat.blt h.next most then
    ((r args h.next).run h.next ⟨h.t, h.next + 1, h.log⟩).bind fun (v, h1) => .leaf (.returned v, h1)
  else .fail
def callFS (E : Env) (S : STab) (ih : CodeRunS) (f : FuncId) (args : List SV) (h : SH) : Tree (SEnd × SH) :=
  match S f with
  | some e => match e with
    | .val r => tabFS r args h
    | .pan r => ptabFS r args h
    | .recd _ => .fail
  | none => match E.tab f with
    | some _ => .fail
    | none => match E.ptab f with
      | some _ => .fail
      | none => match E.P.funcs[f]? with
        | some fn => bodyFS E S ih fn args h
        | none => .fail

inductive SSR where
  | next (a : SAct) (h : SH)
  | stop (e : SExit) (a : SAct) (h : SH)
def finCallS (o : Oper) (a : SAct) (r : SEnd × SH) : Tree SSR :=
  match r.1 with
  | .returned v => .leaf (.next (a.put o.dst v) r.2)
  | .panicked v => .leaf (.stop (.panic v) a r.2)
def finS (E : Env) (S : STab) (ih : CodeRunS) (o : Oper) (a : SAct) (x : SNext) (h1 : SH) : Tree SSR :=
  match x with
  | .value v => .leaf (.next (a.put o.dst v) h1)
  | .skip => .leaf (.next (a.put o.dst sUndef) h1)
  | .defer d => .leaf (.next ((a.later d).put o.dst sUndef) h1)
  | .panic v => .leaf (.stop (.panic v) a h1)
  | .enter f args => (callFS E S ih f args h1).bind (finCallS o a)
def stepOpS (E : Env) (S : STab) (ih : CodeRunS) (id : Nat) (o : Oper) (a : SAct) (h : SH) : Tree SSR :=
  match opOK o.op with
  | false => .fail
  | true => ((sOp E.P id a.eval o.op).run id h).bind fun (x, h1) => finS E S ih o a x h1

def runLS (E : Env) (S : STab) (ih : CodeRunS) (ops : Array Oper) (base : Nat) : List (Nat × Oper) → SAct → SH → Tree (SExit × SAct × SH)
  | [], a, h => .leaf (.normal, a, h)
  | (i, o) :: rest, a, h =>
    let go : SAct → Tree (SExit × SAct × SH) := fun a => (stepOpS E S ih (Nat.add base i) o a h).bind fun
      | .next a h => runLS E S ih ops base rest a h
      | .stop e a h => .leaf (e, a, h)
    let no : SAct → Tree (SExit × SAct × SH) := fun a => runLS E S ih ops base rest (a.put o.dst sUndef) h
    match wantS ops a o with
    | .yes => go a
    | .no => no a
    | .ask d c want => .node c (sel want (go (a.set d (.bool true true))) (no (a.set d (.bool true true)))) (sel want (no (a.set d (.bool true false))) (go (a.set d (.bool true false))))
    | .bad => .fail

/-! Regions that draw. -/
def SM.look {α : Type} : SM α → SH → Tree (α × List Nat × Option SObj)
  | .ret a, _ => .leaf (a, [], none)
  | .get i k, h => match h.get i with
    | some o => ((k o).look h).bind fun (a, l, n) => .leaf (a, i :: l, n)
    | none => .fail
  | .new o k, h => (k.look h).bind fun (a, l, n) => match n with
    | none => .leaf (a, l, some o)
    | some _ => .fail
  | .node c x y, h => .node c (x.look h) (y.look h)
  | _, _ => .fail
def putNewS (h : SH) (id : Nat) : Option SObj → Option SH
  | none => some h
  | some o => match h.get id with
    | some _ => none
    | none => match Nat.blt id h.next with
      | true => some (h.put id o)
      | false => none
structure DSS where
  a : SAct
  h : SH
  hist : List Hist
def stepFloatS (E : Env) (base n : Nat) (anc : Nat) (i : Nat) (o : Oper) (s : DSS) : Tree DSS :=
  match opOK o.op with
  | false => .fail
  | true => ((sOp E.P (Nat.add base i) s.a.eval o.op).look s.h).bind fun (x, reads, m) => match x with
    | .value v => match readsOK base n anc s.hist reads with
      | true => match putNewS s.h (Nat.add base i) m with
        | some h1 => .leaf ⟨s.a.put o.dst v, h1, s.hist⟩
        | none => .fail
      | false => .fail
    | _ => .fail
def stepChainS (E : Env) (S : STab) (ih : CodeRunS) (base i : Nat) (o : Oper) (s : DSS) : Tree DSS :=
  (stepOpS E S ih (Nat.add base i) o s.a ⟨s.h.t, s.h.next, []⟩).bind fun
    | .next a1 h1 => .leaf ⟨a1, ⟨h1.t, h1.next, []⟩, ⟨i, s.h.next, h1.log⟩ :: s.hist⟩
    | .stop _ _ _ => .fail
def stepDS (E : Env) (S : STab) (ih : CodeRunS) (ops : Array Oper) (al : List Nat) (base : Nat) (i : Nat) (s : DSS) : Tree DSS :=
  match ops[i]? with
  | none => .fail
  | some o =>
    let go : SAct → Tree DSS := fun a => match floats o.op with
      | true => stepFloatS E base ops.size (al.getD i 0) i o ⟨a, s.h, s.hist⟩
      | false => stepChainS E S ih base i o ⟨a, s.h, s.hist⟩
    let no : SAct → Tree DSS := fun a => .leaf ⟨a.put o.dst sUndef, s.h, s.hist⟩
    match wantS ops s.a o with
    | .yes => go s.a
    | .no => no s.a
    | .ask d c want => .node c (sel want (go (s.a.set d (.bool true true))) (no (s.a.set d (.bool true true)))) (sel want (no (s.a.set d (.bool true false))) (go (s.a.set d (.bool true false))))
    | .bad => .fail
def runDS (E : Env) (S : STab) (ih : CodeRunS) (ops : Array Oper) (al : List Nat) (base : Nat) : List Nat → DSS → Tree DSS
  | [], s => .leaf s
  | i :: l, s => (stepDS E S ih ops al base i s).bind (runDS E S ih ops al base l)
def endDS (log : List Nat) (s : DSS) : Tree (SExit × SAct × SH) := .leaf (.normal, s.a, ⟨s.h.t, s.h.next, histLog s.hist log⟩)
def runTailS (E : Env) (S : STab) (ih : CodeRunS) (ops : Array Oper) (al : List Nat) (base : Nat) (log : List Nat) (i : Nat) (s : DSS) : Tree (SExit × SAct × SH) :=
  match ops[i]? with
  | none => .fail
  | some o => match floats o.op with
    | true => (stepDS E S ih ops al base i s).bind (endDS log)
    | false => match wantS ops s.a o with
      | .yes => (stepOpS E S ih (Nat.add base i) o s.a ⟨s.h.t, s.h.next, []⟩).bind fun
        | .next a1 h1 => .leaf (.normal, a1, ⟨h1.t, h1.next, h1.log ++ histLog s.hist log⟩)
        | .stop e a1 h1 => .leaf (e, a1, ⟨h1.t, h1.next, h1.log ++ histLog s.hist log⟩)
      | _ => (stepDS E S ih ops al base i s).bind (endDS log)
def runDrawS (E : Env) (S : STab) (ih : CodeRunS) (ops : Array Oper) (al : List Nat) (base : Nat) (log : List Nat) (l : List Nat) (s : DSS) : Tree (SExit × SAct × SH) :=
  match tailOf al l with
  | none => (runDS E S ih ops al base l s).bind (endDS log)
  | some (pre, i) => (runDS E S ih ops al base pre s).bind (runTailS E S ih ops al base log i)
def runRegionS (E : Env) (S : STab) (ih : CodeRunS) (ops : Array Oper) (draw : Bool) (a : SAct) (h : SH) : Tree (SExit × SAct × SH) :=
  match Nat.ble (Nat.add h.next ops.size) most with
  | false => .fail
  | true => match draw with
    | false => runLS E S ih ops h.next (numbered 0 ops.toList) a ⟨h.t, Nat.add h.next ops.size, h.log⟩
    | true => runDrawS E S ih ops (ancs ops) h.next h.log (planOf ops (ancs ops)) ⟨a, ⟨h.t, Nat.add h.next ops.size, []⟩, []⟩

def seqS (ih : CodeRunS) (y : Code) (r : SExit × SAct × SH) : Tree (SExit × SAct × SH) :=
  match r.1 with
  | .normal => ih y r.2.1 r.2.2
  | e => .leaf (e, r.2.1, r.2.2)
def blockS (id : Nat) (r : SExit × SAct × SH) : Tree (SExit × SAct × SH) :=
  match r.1 with
  | .exit id' => bif Nat.beq id' id then .leaf (.normal, r.2.1, r.2.2) else .leaf (.exit id', r.2.1, r.2.2)
  | e => .leaf (e, r.2.1, r.2.2)
/-- The slot of a test, where it is known which way was taken. -/
def SAct.know (a : SAct) (o : Operand) (b : Bool) : SAct :=
  match o with
  | .tmp t => a.set t (.bool true b)
  | _ => a
def condS (ih : CodeRunS) (o : Operand) (x y : Code) (a : SAct) (h : SH) : Tree (SExit × SAct × SH) :=
  match a.eval o with
  | .bool l t => sel l (sel t (ih x a h) (ih y a h)) (.node t (ih x (a.know o true) h) (ih y (a.know o false) h))
  | _ => .fail
def stepS (E : Env) (S : STab) (ih : CodeRunS) : CodeRunS := fun c a h =>
  match c with
  | .skip => .leaf (.normal, a, h)
  | .label _ => .leaf (.normal, a, h)
  | .seq x y => (ih x a h).bind (seqS ih y)
  | .cond o x y => match operandOK o with
    | true => condS ih o x y a h
    | false => .fail
  | .block id x => (ih x a h).bind (blockS id)
  | .loop x => (ih x a h).bind (seqS ih (.loop x))
  | .scope x => ih x a h
  | .exit id => .leaf (.exit id, a, h)
  | .ret => .leaf (.ret, a, h)
  | .region _ ops draw => runRegionS E S ih ops draw a h
  | _ => .fail
def evalS (E : Env) (S : STab) (n : Nat) : CodeRunS := Nat.rec (motive := fun _ => CodeRunS) (fun _ _ _ => .fail) (fun _ ih => stepS E S ih) n
def evalCallS (E : Env) (S : STab) (n : Nat) (f : FuncId) (args : List SV) (h : SH) : Tree (SEnd × SH) := callFS E S (evalS E S n) f args h
end
end Go.Ev
end
section
namespace Go.Ev

theorem dens_map : ∀ (l : List SV), dens l = l.map SV.den
  | [] => rfl
  | v :: l => by rw [dens, dens_map l]; rfl
theorem dens_length (l : List SV) : (dens l).length = l.length := by simp [dens_map]
theorem dens_append (a b : List SV) : dens (a ++ b) = dens a ++ dens b := by simp [dens_map]
theorem dens_take (l : List SV) (n : Nat) : dens (l.take n) = (dens l).take n := by simp [dens_map, List.map_take]
theorem dens_drop (l : List SV) (n : Nat) : dens (l.drop n) = (dens l).drop n := by simp [dens_map, List.map_drop]
theorem dens_get (l : List SV) (i : Nat) : (dens l)[i]? = l[i]?.map SV.den := by simp [dens_map]

/-! Tries. -/
section
variable {α β : Type} (g : α → β)
theorem Tr.get_map : ∀ (t : Tr α) (i : Nat), Tr.get (t.map g) i = (Tr.get t i).map g
  | .nil, _ => rfl
  | .leaf _, _ => rfl
  | .node l r, i => by
    rw [Tr.map, Tr.get_node, Tr.get_node]
    cases Nat.beq (Nat.mod i 2) 0
    · exact get_map r _
    · exact get_map l _
theorem Tr.put_map (x : α) : ∀ (d : Nat) (t : Tr α) (i : Nat), Tr.put d (t.map g) i (.leaf (g x)) = (Tr.put d t i (.leaf x)).map g
  | 0, _, _ => rfl
  | d + 1, .nil, i => by
    rw [Tr.map, Tr.put_nil, Tr.put_nil]
    have := put_map x d .nil (Nat.div i 2)
    rw [Tr.map] at this
    cases Nat.beq (Nat.mod i 2) 0 <;> simp only [sel_true, sel_false, Tr.map, this]
  | d + 1, .leaf _, i => by
    rw [Tr.map, Tr.put_leaf, Tr.put_leaf]
    have := put_map x d .nil (Nat.div i 2)
    rw [Tr.map] at this
    cases Nat.beq (Nat.mod i 2) 0 <;> simp only [sel_true, sel_false, Tr.map, this]
  | d + 1, .node l r, i => by
    rw [Tr.map, Tr.put_node, Tr.put_node]
    cases Nat.beq (Nat.mod i 2) 0 <;> simp only [sel_true, sel_false, Tr.map, put_map x d]
end

theorem SH.den_get (h : SH) (i : Nat) : h.den.get i = (h.get i).map SObj.den := by
  unfold SH.den AH.get SH.get
  simp only
  cases Nat.blt i h.next
  · rfl
  · exact Tr.get_map _ _ _
theorem SH.den_put (h : SH) (i : Nat) (o : SObj) : (h.put i o).den = h.den.put i o.den := by
  unfold SH.den AH.put SH.put
  simp only [AH.mk.injEq, and_self, and_true]
  exact (Tr.put_map _ _ _ _ _).symm
theorem SH.den_set (h : SH) (i : Nat) (o : SObj) : (h.set i o).den = h.den.set i o.den := by
  unfold SH.den AH.set SH.set
  simp only [AH.mk.injEq, and_self, and_true]
  exact (Tr.put_map _ _ _ _ _).symm
theorem SH.den_del (h : SH) (i : Nat) : (h.del i).den = h.den.del i := SH.den_set h i _

/-! Trees. -/
theorem Tree.pick_bind {α β : Type} (g : α → Tree β) : ∀ (t : Tree α) (b : β), (t.bind g).pick = some b ↔ ∃ a, t.pick = some a ∧ (g a).pick = some b
  | .leaf a, b => by simp [Tree.bind, Tree.pick]
  | .node c x y, b => by
    simp only [Tree.bind, Tree.pick]
    cases c
    · simpa using pick_bind g y b
    · simpa using pick_bind g x b
  | .fail, b => by simp [Tree.bind, Tree.pick]

/-! What a walk over open terms says of one over values. -/
inductive Hom {α β : Type} (R : α → β → Prop) : SM α → AM β → Prop
  | fail (m : AM β) : Hom R .fail m
  | ret (a : α) (b : β) (h : R a b) : Hom R (.ret a) (.ret b)
  | get (i : Nat) (k : SObj → SM α) (k' : AObj → AM β) (h : ∀ o, Hom R (k o) (k' o.den)) : Hom R (.get i k) (.get i k')
  | set (i : Nat) (o : SObj) (o' : AObj) (k : SM α) (k' : AM β) (e : o.den = o') (h : Hom R k k') : Hom R (.set i o k) (.set i o' k')
  | kill (i : Nat) (k : SM α) (k' : AM β) (h : Hom R k k') : Hom R (.kill i k) (.kill i k')
  | new (o : SObj) (o' : AObj) (k : SM α) (k' : AM β) (e : o.den = o') (h : Hom R k k') : Hom R (.new o k) (.new o' k')
  | node (c : Bool) (t f : SM α) (m : AM β) (ht : c = true → Hom R t m) (hf : c = false → Hom R f m) : Hom R (.node c t f) m

theorem run_hom {α β : Type} {R : α → β → Prop} {m : SM α} {am : AM β} (hm : Hom R m am) (id : Nat) : ∀ (h : SH) (a : α) (h1 : SH), (m.run id h).pick = some (a, h1) → ∃ b, am.run id h.den = some (b, h1.den) ∧ R a b := by
  induction hm with
  | fail m => intro h a h1 e; cases e
  | ret a b hr =>
    intro h a' h1 e
    simp only [SM.run, Tree.pick, Option.some.injEq, Prod.mk.injEq] at e
    obtain ⟨rfl, rfl⟩ := e
    exact ⟨b, rfl, hr⟩
  | get i k k' hk ih =>
    intro h a h1 e
    simp only [SM.run] at e
    cases hg : h.get i with
    | none => rw [hg] at e; cases e
    | some o =>
      rw [hg] at e
      obtain ⟨b, e1, hr⟩ := ih o h a h1 e
      refine ⟨b, ?_, hr⟩
      simp only [AM.run, SH.den_get, hg, Option.map_some]
      exact e1
  | set i o o' k k' he hk ih =>
    intro h a h1 e
    simp only [SM.run] at e
    cases hg : h.get i with
    | none => rw [hg] at e; cases e
    | some x =>
      rw [hg] at e
      obtain ⟨b, e1, hr⟩ := ih _ a h1 e
      refine ⟨b, ?_, hr⟩
      simp only [AM.run, SH.den_get, hg, Option.map_some]
      rw [SH.den_set, he] at e1
      exact e1
  | kill i k k' hk ih =>
    intro h a h1 e
    simp only [SM.run] at e
    cases hg : h.get i with
    | none => rw [hg] at e; cases e
    | some x =>
      rw [hg] at e
      obtain ⟨b, e1, hr⟩ := ih _ a h1 e
      refine ⟨b, ?_, hr⟩
      simp only [AM.run, SH.den_get, hg, Option.map_some]
      rw [SH.den_del] at e1
      exact e1
  | new o o' k k' he hk ih =>
    intro h a h1 e
    simp only [SM.run] at e
    cases hg : h.get id with
    | some x => rw [hg] at e; cases e
    | none =>
      rw [hg] at e
      simp only [AM.run, SH.den_get, hg, Option.map_none]
      have hn : h.den.next = h.next := rfl
      rw [hn]
      cases hb : Nat.blt id h.next with
      | false => rw [hb] at e; cases e
      | true =>
        rw [hb] at e
        simp only [cond_true] at e ⊢
        obtain ⟨b, e1, hr⟩ := ih _ a h1 e
        rw [SH.den_put, he] at e1
        exact ⟨b, e1, hr⟩
  | node c t f m ht hf iht ihf =>
    intro h a h1 e
    simp only [SM.run, Tree.pick] at e
    cases c with
    | true => exact iht rfl h a h1 e
    | false => exact ihf rfl h a h1 e

theorem look_hom {α β : Type} {R : α → β → Prop} {m : SM α} {am : AM β} (hm : Hom R m am) : ∀ (h : SH) (a : α) (l : List Nat) (n : Option SObj), (m.look h).pick = some (a, l, n) → ∃ b, am.look h.den = some (b, l, n.map SObj.den) ∧ R a b := by
  induction hm with
  | fail m => intro h a l n e; cases e
  | ret a b hr =>
    intro h a' l n e
    simp only [SM.look, Tree.pick, Option.some.injEq, Prod.mk.injEq] at e
    obtain ⟨rfl, rfl, rfl⟩ := e
    exact ⟨b, rfl, hr⟩
  | get i k k' hk ih =>
    intro h a l n e
    simp only [SM.look] at e
    cases hg : h.get i with
    | none => rw [hg] at e; cases e
    | some o =>
      rw [hg] at e
      simp only [Tree.pick_bind] at e
      obtain ⟨⟨a1, l1, n1⟩, e1, e2⟩ := e
      simp only [Tree.pick, Option.some.injEq, Prod.mk.injEq] at e2
      obtain ⟨rfl, rfl, rfl⟩ := e2
      obtain ⟨b, e3, hr⟩ := ih o h a1 l1 n1 e1
      refine ⟨b, ?_, hr⟩
      simp only [AM.look, SH.den_get, hg, Option.map_some, e3]
  | set i o o' k k' he hk ih => intro h a l n e; cases e
  | kill i k k' hk ih => intro h a l n e; cases e
  | new o o' k k' he hk ih =>
    intro h a l n e
    simp only [SM.look, Tree.pick_bind] at e
    obtain ⟨⟨a1, l1, n1⟩, e1, e2⟩ := e
    cases n1 with
    | some x => simp [Tree.pick] at e2
    | none =>
      simp only [Tree.pick, Option.some.injEq, Prod.mk.injEq] at e2
      obtain ⟨rfl, rfl, rfl⟩ := e2
      obtain ⟨b, e3, hr⟩ := ih h a1 l1 none e1
      refine ⟨b, ?_, hr⟩
      simp only [AM.look, e3, Option.map_none, Option.map_some, he]
  | node c t f m ht hf iht ihf =>
    intro h a l n e
    simp only [SM.look, Tree.pick] at e
    cases c with
    | true => exact iht rfl h a l n e
    | false => exact ihf rfl h a l n e

theorem Hom.bind {α β γ δ : Type} {R : α → β → Prop} {Q : γ → δ → Prop} {m : SM α} {am : AM β} {f : α → SM γ} {g : β → AM δ} (hm : Hom R m am) (hf : ∀ a b, R a b → Hom Q (f a) (g b)) : Hom Q (m.bind f) (am.bind g) := by
  induction hm with
  | fail m => exact .fail _
  | ret a b hr => exact hf a b hr
  | get i k k' hk ih => exact .get _ _ _ fun o => ih o
  | set i o o' k k' he hk ih => exact .set _ _ _ _ _ he ih
  | kill i k k' hk ih => exact .kill _ _ _ ih
  | new o o' k k' he hk ih => exact .new _ _ _ _ he ih
  | node c t f m ht hf iht ihf => exact .node _ _ _ _ iht ihf

section
variable {α β : Type} {R : α → β → Prop}
theorem Hom.cond {lit c : Bool} {t f : SM α} {m : AM β} (ht : c = true → Hom R t m) (hf : c = false → Hom R f m) : Hom R (sCond lit c t f) m := by
  cases lit with
  | false => exact .node _ _ _ _ ht hf
  | true => cases c with
    | true => exact ht rfl
    | false => exact hf rfl
/-- A test that fails if it is not met. -/
theorem Hom.test {lit c : Bool} {t : SM α} {m : AM β} (ht : c = true → Hom R t m) : Hom R (sCond lit c t .fail) m := .cond ht fun _ => .fail _
theorem Hom.bifL {c : Bool} {t : SM α} {m : AM β} (ht : c = true → Hom R t m) : Hom R (bif c then t else .fail) m := by
  cases c with
  | true => exact ht rfl
  | false => exact .fail _
end

abbrev NR : SNext → ANext → Prop := fun x y => y = x.den
abbrev HomN : SM SNext → AM ANext → Prop := Hom NR
theorem rv_hom {v : SV} {v' : Value} (h : v.den = v') : HomN (rv v) (retV v') := .ret _ _ (by rw [← h]; rfl)
theorem rvO_hom {o : Option SV} {o' : Option Value} (h : ∀ v, o = some v → o' = some v.den) : HomN (rvO o) (retO o') := by
  cases o with
  | none => exact .fail _
  | some v => rw [h v rfl]; exact rv_hom rfl

theorem ofV1_den (v : Value) : (ofV1 v).den = v := by cases v <;> rfl
theorem ofV1s_den (l : List Value) : dens (l.map ofV1) = l := by
  rw [dens_map, List.map_map]
  conv => rhs; rw [← List.map_id l]
  exact List.map_congr_left fun v _ => ofV1_den v
theorem ofV_den (v : Value) : (ofV v).den = v := by
  cases v <;> first
    | rfl
    | (simp only [ofV, SV.den, ofV1s_den])
theorem cellsS_den (v : SV) : v.den.cells.toList = dens (cellsS v) := by
  cases v with
  | raw v => cases v <;> first
      | rfl
      | (simp only [cellsS, SV.den, Value.cells, ofV1s_den])
  | agg l => simp [cellsS, SV.den, Value.cells]
  | _ => simp [cellsS, SV.den, Value.cells, dens]
theorem notAggS_den (v : SV) : notAgg v.den = notAggS v := by
  cases v <;> rfl
theorem notAggsS_den (l : List SV) : (dens l).all notAgg = l.all notAggS := by
  rw [dens_map, List.all_map]
  congr 1
  funext v
  exact notAggS_den v
theorem takeS_den (l : List SV) (o n : Nat) : takeCells (dens l) o n = (takeS l o n).map dens := by
  unfold takeCells takeS
  rw [dens_length]
  cases Nat.ble (Nat.add o n) l.length
  · rfl
  · simp [dens_take, dens_drop]

/-! Arrays whose length is open. -/
theorem flat_length {α : Type} (w : Nat) : ∀ (n : Nat) (g : Nat → List α), (∀ i, i < n → (g i).length = w) → ((List.range n).flatMap g).length = n * w
  | 0, g, _ => by simp
  | n + 1, g, h => by
    rw [List.range_succ, List.flatMap_append, List.length_append, flat_length w n g fun i hi => h i (by omega)]
    simp [h n (by omega), Nat.succ_mul]
theorem flat_part {α : Type} (w : Nat) : ∀ (n : Nat) (g : Nat → List α), (∀ i, i < n → (g i).length = w) → ∀ i j m, i < n → j + m ≤ w →
    (((List.range n).flatMap g).drop (i * w + j)).take m = ((g i).drop j).take m
  | 0, _, _, i, _, _, hi, _ => by omega
  | n + 1, g, h, i, j, m, hi, hj => by
    rw [List.range_succ, List.flatMap_append]
    have hl := flat_length w n g fun i hi => h i (by omega)
    by_cases hn : i < n
    · have : i * w + w ≤ n * w := by
        calc i * w + w = (i + 1) * w := by rw [Nat.succ_mul]
          _ ≤ n * w := Nat.mul_le_mul_right _ hn
      rw [List.drop_append_of_le_length (by omega), List.take_append_of_le_length (by rw [List.length_drop, hl]; omega)]
      exact flat_part w n g (fun i hi => h i (by omega)) i j m hn hj
    · obtain rfl : i = n := by omega
      rw [List.drop_append, List.drop_eq_nil_of_le (by omega), hl, List.nil_append, Nat.add_sub_cancel_left]
      simp
theorem rowAt_length (fs : List SF) (i : Nat) : (dens (rowAt fs i)).length = fs.length := by simp [dens_length, rowAt]
theorem arrCells_length (n : Nat) (fs : List SF) : (arrCells n fs).length = n * fs.length := flat_length _ _ _ fun i _ => rowAt_length fs i
theorem arr_take {n i j m : Nat} {fs : List SF} (hi : i < n) (hj : j + m ≤ fs.length) : takeCells (arrCells n fs) (i * fs.length + j) m = some (dens (rowPart fs i j m)) := by
  unfold takeCells
  have hle : Nat.ble (Nat.add (i * fs.length + j) m) (arrCells n fs).length = true := by
    rw [arrCells_length]
    refine Nat.ble_eq_true_of_le ?_
    have : i * fs.length + fs.length ≤ n * fs.length := by
      calc i * fs.length + fs.length = (i + 1) * fs.length := by rw [Nat.succ_mul]
        _ ≤ n * fs.length := Nat.mul_le_mul_right _ hi
    show i * fs.length + j + m ≤ _
    omega
  rw [hle]
  simp only [cond_true, Option.some.injEq]
  unfold arrCells rowPart
  rw [flat_part fs.length n _ (fun i _ => rowAt_length fs i) i j m hi hj, dens_take, dens_drop]
theorem arr_shift (n lo m : Nat) (fs : List SF) (h : lo + m ≤ n) : ((arrCells n fs).drop (lo * fs.length)).take (m * fs.length) = arrCells m (fs.map (·.shift lo)) := by
  have hs : ∀ i, dens (rowAt (fs.map (·.shift lo)) i) = dens (rowAt fs (lo + i)) := fun i => by
    simp only [rowAt, List.map_map]
    congr 1
    refine List.map_congr_left fun f _ => ?_
    cases f <;> rfl
  induction m with
  | zero => simp [arrCells]
  | succ m ih =>
    have e : ((arrCells n fs).drop (lo * fs.length)).take ((m + 1) * fs.length) = ((arrCells n fs).drop (lo * fs.length)).take (m * fs.length) ++ ((arrCells n fs).drop ((lo + m) * fs.length + 0)).take fs.length := by
      rw [Nat.succ_mul, List.take_add, List.drop_drop]
      congr 3
      rw [Nat.add_mul, Nat.add_zero]
    rw [e, ih (by omega)]
    have := flat_part fs.length n (fun i => dens (rowAt fs i)) (fun i _ => rowAt_length fs i) (lo + m) 0 fs.length (by omega) (by omega)
    have e2 : arrCells (m + 1) (fs.map (·.shift lo)) = arrCells m (fs.map (·.shift lo)) ++ dens (rowAt (fs.map (·.shift lo)) m) := by
      simp [arrCells, List.range_succ]
    rw [e2, hs]
    congr 1
    show (((List.range n).flatMap fun i => dens (rowAt fs i)).drop ((lo + m) * fs.length + 0)).take fs.length = _
    rw [this]
    simp only [List.drop_zero]
    exact List.take_of_length_le (by rw [rowAt_length]; exact Nat.le_refl _)

theorem nat_ble {a b : Nat} (h : Nat.ble a b = true) : a ≤ b := Nat.le_of_ble_eq_true h

/-- Reading: K' goes on with what K goes on with. -/
def readA {β : Type} (o : AObj) (off n : Nat) (K : List Value → AM β) : AM β :=
  match o with
  | .cells c _ => match takeCells c off n with
    | some l => K l
    | none => .fail
  | _ => .fail
theorem readS_hom {α β : Type} {R : α → β → Prop} {K : List SV → SM α} {K' : List Value → AM β} (hk : ∀ c, Hom R (K c) (K' (dens c))) (o : SObj) (off : SOff) (n : Nat) : Hom R (readS o off n K) (readA o.den off.n n K') := by
  cases o with
  | raw o => exact .fail _
  | cells l rw =>
    cases off with
    | c o =>
      simp only [readS, readA, SObj.den, SOff.n, takeS_den]
      cases takeS l o n with
      | none => exact .fail _
      | some c => exact hk c
    | el i w j =>
      simp only [readS]
      generalize Nat.div l.length w = m
      suffices ∀ m t, Hom R (pickS l i w j n K m t) (readA (SObj.den (.cells l rw)) (SOff.n (.el i w j)) n K') from this m 0
      intro m
      induction m with
      | zero => intro t; exact .fail _
      | succ m ih =>
        intro t
        simp only [pickS]
        cases ht : takeS l (Nat.add (Nat.mul t w) j) n with
        | none => exact .fail _
        | some c =>
          refine .node _ _ _ _ (fun hc => ?_) fun _ => ih _
          obtain rfl := Nat.eq_of_beq_eq_true hc
          have ht' : takeS l (i * w + j) n = some c := ht
          simp only [readA, SObj.den, SOff.n, takeS_den, ht', Option.map_some]
          exact hk c
  | arr len fs rw =>
    cases off with
    | el i w j =>
      simp only [readS]
      refine .bifL fun hc => .node _ _ _ _ (fun hi => ?_) fun _ => .fail _
      simp only [Bool.and_eq_true] at hc
      obtain rfl := Nat.eq_of_beq_eq_true hc.1
      have := arr_take (n := len.n) (fs := fs) (lt_of_blt hi) (nat_ble hc.2)
      simp only [readA, SObj.den, SOff.n, this]
      exact hk _
    | c o =>
      simp only [readS]
      refine .bifL fun hc => .test fun hi => ?_
      simp only [Bool.and_eq_true] at hc
      have := arr_take (n := len.n) (fs := fs) (lt_of_blt hi) (nat_ble hc.2)
      have e : Nat.div o fs.length * fs.length + Nat.mod o fs.length = o := Nat.div_add_mod' o fs.length
      rw [e] at this
      simp only [readA, SObj.den, SOff.n, this]
      exact hk _
end Go.Ev
end
section
namespace Go.Ev
section
variable {P : Program} {id : Nat}

theorem aCells_eq (i off n : Nat) (k : List Value → AM ANext) : aCells i off n k = .get i fun o => readA o off n k := by
  unfold aCells
  rfl
theorem addrOf_ptr (b : Nat) (off : SOff) : addrOf (SV.den (.ptr b off)) = some ⟨b, off.n, none⟩ := rfl

theorem loadS_hom (agg : Bool) (c : List SV) : HomN (loadS agg c) (loadV agg (dens c)) := by
  unfold loadS loadV
  cases agg with
  | true => exact rv_hom rfl
  | false =>
    simp only [cond_false]
    match c with
    | [] => exact .fail _
    | [v] => exact rv_hom rfl
    | _ :: _ :: _ => exact .fail _
theorem sLoad_hom (t : TypeId) (x : SV) : HomN (sLoad P t x) (oLoad P t x.den) := by
  cases x with
  | ptr b off =>
    simp only [sLoad, oLoad, addrOf_ptr]
    cases shapeOf P t with
    | none => exact .fail _
    | some p =>
      obtain ⟨agg, n⟩ := p
      simp only [aCells_eq]
      exact .get _ _ _ fun o => readS_hom (loadS_hom agg) o off n
  | _ => exact .fail _

theorem putS_den (l : List SV) (o : Nat) (vs : List SV) : dens (putS l o vs) = putCells (dens l) o (dens vs) := by
  simp only [putS, putCells, dens_append, dens_take, dens_drop, dens_length]
theorem putCells_left {a b vs : List Value} {o : Nat} (h : o + vs.length ≤ a.length) : putCells (a ++ b) o vs = putCells a o vs ++ b := by
  unfold putCells
  rw [List.take_append_of_le_length (by omega), List.drop_append_of_le_length (by omega)]
  simp
theorem putCells_right {a b vs : List Value} {o : Nat} : putCells (a ++ b) (a.length + o) vs = a ++ putCells b o vs := by
  unfold putCells
  rw [List.take_append, List.drop_append]
  have h1 : a.take (a.length + o) = a := List.take_of_length_le (by omega)
  have h2 : a.drop (a.length + o + vs.length) = [] := List.drop_eq_nil_of_le (by omega)
  rw [h1, h2]
  have h3 : a.length + o - a.length = o := by omega
  have h4 : a.length + o + vs.length - a.length = o + vs.length := by omega
  rw [h3, h4]
  simp
theorem flat_put (w : Nat) (g g' : Nat → List Value) (hg : ∀ i, (g i).length = w) (i j : Nat) (vs : List Value) (hj : j + vs.length ≤ w) (hi : g' i = putCells (g i) j vs) (hne : ∀ x, x ≠ i → g' x = g x) : ∀ n, i < n →
    (List.range n).flatMap g' = putCells ((List.range n).flatMap g) (i * w + j) vs
  | 0, h => by omega
  | n + 1, h => by
    rw [List.range_succ, List.flatMap_append, List.flatMap_append]
    have hl := flat_length w n g fun i _ => hg i
    by_cases hn : i < n
    · have : i * w + w ≤ n * w := by
        calc i * w + w = (i + 1) * w := by rw [Nat.succ_mul]
          _ ≤ n * w := Nat.mul_le_mul_right _ hn
      rw [putCells_left (by rw [hl]; omega), flat_put w g g' hg i j vs hj hi hne n hn]
      simp only [List.flatMap_cons, List.flatMap_nil, List.append_nil]
      rw [hne n (by omega)]
    · obtain rfl : i = n := by omega
      rw [← hl, putCells_right]
      simp only [List.flatMap_cons, List.flatMap_nil, List.append_nil]
      rw [hi]
      congr 1
      have : ∀ (l : List Nat), (∀ x ∈ l, x ≠ i) → l.flatMap g' = l.flatMap g := fun l hl => by
        induction l with
        | nil => rfl
        | cons x l ih => simp only [List.flatMap_cons]; rw [hne x (hl x (by simp)), ih fun y hy => hl y (by simp [hy])]
      exact this _ fun x hx => by simp at hx; omega
theorem SF.upd_get {f f' : SF} {i : Nat} {v : SV} (h : f.upd i v = some f') (x : Nat) : (f'.get x).den = if x = i then v.den else (f.get x).den := by
  have hb : ∀ x i : Nat, Nat.beq x i = decide (x = i) := fun x i => by rw [Bool.eq_iff_iff, decide_eq_true_iff, Nat.beq_eq]
  cases f with
  | int k f =>
    cases v <;> simp only [SF.upd] at h <;> try (cases h)
    rename_i k' _ n
    by_cases hk : k = k'
    · subst hk
      simp only [decide_true, cond_true, Option.some.injEq] at h
      subst h
      simp only [SF.get, SV.den, hb]
      by_cases hx : x = i <;> simp [hx]
    · simp [hk] at h
  | bool f =>
    cases v <;> simp only [SF.upd, Option.some.injEq] at h <;> try (cases h)
    simp only [SF.get, SV.den, hb]
    by_cases hx : x = i <;> simp [hx]
  | str f =>
    cases v <;> simp only [SF.upd, Option.some.injEq] at h <;> try (cases h)
    simp only [SF.get, SV.den, hb]
    by_cases hx : x = i <;> simp [hx]
  | raw v => simp [SF.upd] at h
theorem updRow_spec (i : Nat) : ∀ (fs : List SF) (j : Nat) (vs : List SV) (fs' : List SF), updRow i fs j vs = some fs' → j + vs.length ≤ fs.length → fs'.length = fs.length ∧
    (∀ x, x ≠ i → dens (rowAt fs' x) = dens (rowAt fs x)) ∧ dens (rowAt fs' i) = putCells (dens (rowAt fs i)) j (dens vs)
  | fs, j, [], fs', h, hl => by
    have e : fs' = fs := by cases fs <;> simp only [updRow, Option.some.injEq] at h <;> exact h.symm
    subst e
    exact ⟨rfl, fun _ _ => rfl, by simp [putCells, dens]⟩
  | [], j, v :: vs, fs', h, hl => by simp [updRow] at h
  | f :: fs, 0, v :: vs, fs', h, hl => by
    simp only [updRow] at h
    cases hf : f.upd i v with
    | none => rw [hf] at h; cases h
    | some f' =>
      rw [hf] at h
      simp only at h
      cases hr : updRow i fs 0 vs with
      | none => rw [hr] at h; cases h
      | some r =>
        rw [hr] at h
        simp only [Option.some.injEq] at h
        subst h
        obtain ⟨h1, h2, h3⟩ := updRow_spec i fs 0 vs r hr (by simp at hl ⊢; omega)
        refine ⟨by simp [h1], fun x hx => ?_, ?_⟩
        · have := SF.upd_get hf x
          rw [if_neg hx] at this
          simp only [rowAt, List.map_cons, dens] at h2 ⊢
          rw [this]
          have := h2 x hx
          rw [this]
        · have := SF.upd_get hf i
          rw [if_pos rfl] at this
          simp only [rowAt, List.map_cons, dens] at h3 ⊢
          rw [this, h3]
          simp [putCells]
  | f :: fs, j + 1, v :: vs, fs', h, hl => by
    simp only [updRow] at h
    cases hr : updRow i fs j (v :: vs) with
    | none => rw [hr] at h; cases h
    | some r =>
      rw [hr] at h
      simp only [Option.some.injEq] at h
      subst h
      obtain ⟨h1, h2, h3⟩ := updRow_spec i fs j (v :: vs) r hr (by simp at hl ⊢; omega)
      refine ⟨by simp [h1], fun x hx => ?_, ?_⟩
      · simp only [rowAt, List.map_cons, dens] at h2 ⊢
        have := h2 x hx
        rw [this]
      · simp only [rowAt, List.map_cons, dens] at h3 ⊢
        rw [h3]
        simp only [putCells, List.take_succ_cons, List.cons_append]
        congr 4
        have : j + 1 + (v.den :: dens vs).length = (j + (v.den :: dens vs).length) + 1 := by omega
        rw [this, List.drop_succ_cons]

theorem storeS_hom (b : Nat) (off : SOff) (vs : List SV) {k : SM SNext} {k' : AM ANext} (hk : HomN k k') : HomN (storeS b off vs k) (aStoreCells b off.n (dens vs) k') := by
  unfold storeS aStoreCells
  refine .get _ _ _ fun o => ?_
  cases o with
  | raw o => exact .fail _
  | cells l rw =>
    cases off with
    | el i w j => exact .fail _
    | c o =>
      simp only [SObj.den, SOff.n, dens_length]
      refine .bifL fun hc => ?_
      rw [hc]
      exact .set _ _ _ _ _ (by simp only [SObj.den, putS_den]) hk
  | arr len fs rw =>
    cases off with
    | c o => exact .fail _
    | el i w j =>
      simp only [SObj.den, SOff.n, dens_length]
      refine .bifL fun hc => ?_
      simp only [Bool.and_eq_true] at hc
      obtain ⟨⟨h1, h2⟩, h3⟩ := hc
      obtain rfl := Nat.eq_of_beq_eq_true h2
      have h3 : j + vs.length ≤ fs.length := nat_ble h3
      cases hu : updRow i fs j vs with
      | none => exact .fail _
      | some fs' =>
        refine .node _ _ _ _ (fun hi => ?_) fun _ => .fail _
        have hi := lt_of_blt hi
        obtain ⟨u1, u2, u3⟩ := updRow_spec i fs j vs fs' hu h3
        have hle : (rw && Nat.ble (Nat.add (i * fs.length + j) vs.length) (arrCells len.n fs).length) = true := by
          rw [h1, arrCells_length]
          refine Nat.ble_eq_true_of_le ?_
          have : i * fs.length + fs.length ≤ len.n * fs.length := by
            calc i * fs.length + fs.length = (i + 1) * fs.length := by rw [Nat.succ_mul]
              _ ≤ len.n * fs.length := Nat.mul_le_mul_right _ hi
          show i * fs.length + j + vs.length ≤ _
          omega
        rw [hle]
        refine .set _ _ _ _ _ ?_ hk
        simp only [SObj.den, AObj.cells.injEq, and_true]
        exact flat_put fs.length _ _ (rowAt_length fs) i j (dens vs) (by rw [dens_length]; exact h3) u3 u2 len.n hi

theorem sStore_hom (t : TypeId) (x v : SV) : HomN (sStore P t x v) (oStore P t x.den v.den) := by
  cases x with
  | ptr b off =>
    simp only [sStore, oStore, addrOf_ptr]
    cases P.info? t with
    | none => exact .fail _
    | some inf =>
      have e1 : v.den.cells.size = (cellsS v).length := by rw [← dens_length, ← cellsS_den, Array.length_toList]
      simp only [e1, cellsS_den, notAggsS_den]
      cases hb : (Nat.beq (cellsS v).length inf.size && (cellsS v).all notAggS) with
      | false => exact .fail _
      | true => exact storeS_hom b off _ (.ret _ _ rfl)
  | _ => exact .fail _

theorem zeroS_den {t : TypeId} {z : List SV} (h : zeroS P t = some z) : ∃ a, aZero P t = some a ∧ a.toList = dens z := by
  unfold zeroS at h
  cases ha : aZero P t with
  | none => rw [ha] at h; cases h
  | some a =>
    rw [ha] at h
    simp only [Option.some.injEq] at h
    exact ⟨a, rfl, by rw [← h, ofV1s_den]⟩
theorem sBox_hom {cs : List SV} {cs' : Array Value} (h : cs'.toList = dens cs) : HomN (sBox id cs) (oBox id cs') :=
  .new _ _ _ _ (by simp only [SObj.den, h]) (rv_hom rfl)
theorem sAlloc_hom (t : TypeId) : HomN (sAlloc P id t) (oAlloc P id t) := by
  unfold sAlloc oAlloc
  cases h : zeroS P t with
  | none => exact .fail _
  | some z =>
    obtain ⟨a, h1, h2⟩ := zeroS_den h
    rw [h1]
    exact sBox_hom h2

/-! Numbers. -/
theorem sInt2_hom (op : BinOp) (k : IntKind) (la : Bool) (a : Int) (lb : Bool) (b : Int) : HomN (sInt2 op k la a lb b) (retO (aIntBin op k a b)) := by
  cases op <;> first
    | exact .fail _
    | exact rv_hom rfl
    | (refine .cond (fun _ => .fail _) fun hb => ?_
       simp only [aIntBin, iQuo, iRem, hb, cond_false]
       exact rv_hom rfl)
theorem sBinInt_hom (op : BinOp) (k : IntKind) (la : Bool) (a : Int) (k' : IntKind) (lb : Bool) (b : Int) : HomN (sBinInt op k la a k' lb b) (retO (binInt op k a k' b)) := by
  have main : ∀ op, HomN (bif decide (k = k') then sInt2 op k la a lb b else .fail) (retO (bif decide (k = k') then aIntBin op k a b else none)) := fun op => by
    cases decide (k = k') with
    | false => exact .fail _
    | true => exact sInt2_hom op k la a lb b
  cases op <;> first
    | exact main _
    | (refine .cond (fun _ => .fail _) fun hb => ?_
       simp only [binInt, iShl, iShr, hb, cond_false]
       exact rv_hom rfl)

/-! Strings. -/
theorem strOf_den {x : SV} {l : Bool} {s : ByteArray} (h : strOf x = some (l, s)) : x.den = .string s := by
  cases x <;> simp only [strOf, Option.some.injEq, Prod.mk.injEq, reduceCtorEq] at h <;> (obtain ⟨_, rfl⟩ := h; rfl)
theorem strLen_den {x : SV} {n : SN} (h : strLen x = some n) : ∃ s, x.den = .string s ∧ s.size = n.n := by
  cases x <;> simp only [strLen, Option.some.injEq] at h <;> try (cases h)
  · exact ⟨_, rfl, rfl⟩
  · exact ⟨_, rfl, by simp [ByteArray.size]⟩
theorem strBytes_den {x : SV} {bs : List UInt8} (h : strBytes x = some bs) : ∃ s, x.den = .string s ∧ s.data.toList = bs := by
  unfold strBytes at h
  split at h
  · cases h; exact ⟨_, rfl, rfl⟩
  · cases h; exact ⟨_, rfl, rfl⟩
  · cases h
theorem bytes_ext {s t : ByteArray} (h : s.data.toList = t.data.toList) : s = t := by
  obtain ⟨s⟩ := s
  obtain ⟨t⟩ := t
  exact congrArg ByteArray.mk (Array.toList_inj.1 h)
theorem strL_den (s : ByteArray) : SV.den (.strL s.data.toList) = .string s := by
  simp only [SV.den]
theorem append_data (a b : ByteArray) : (a ++ b).data.toList = a.data.toList ++ b.data.toList := by
  rw [ByteArray.data_append, Array.toList_append]
theorem sConcat_hom (t : TypeId) (x y : SV) : HomN (sConcat x y) (retO (binOther P .add t x.den y.den)) := by
  unfold sConcat
  split
  · rename_i _ a _ b hx hy
    have ex := strOf_den hx
    have ey := strOf_den hy
    rw [ex, ey]
    simp only [binOther]
    split
    · rename_i l m hl hm
      obtain ⟨s1, e1, e2⟩ := strBytes_den hl
      obtain ⟨s2, e3, e4⟩ := strBytes_den hm
      rw [ex] at e1
      rw [ey] at e3
      cases e1
      cases e3
      have s1 : a.size = l.length := by rw [← e2, Array.length_toList]; rfl
      have s2 : b.size = m.length := by rw [← e4, Array.length_toList]; rfl
      rw [s1, s2]
      cases Nat.ble (l.length + m.length) 9223372036854775807 with
      | false => exact .fail _
      | true => exact rv_hom (by rw [← e2, ← e4, ← append_data, strL_den])
    · refine .node _ _ _ _ (fun hc => ?_) fun _ => .fail _
      rw [hc]
      exact rv_hom rfl
  · exact .fail _
end
end Go.Ev
end
section
namespace Go.Ev
section
variable {P : Program} {id : Nat}

theorem sUn_hom (op : UnOp) (x : SV) : HomN (sUn op x) (retO (aUn op x.den)) := by
  cases x <;> first
    | exact .fail _
    | (cases op <;> first
        | exact .fail _
        | exact rv_hom rfl)

/-! Indices and bounds. -/
theorem toNat_of {i : Int} (h : 0 ≤ i) : i = Int.ofNat i.toNat := by
  have : (Int.ofNat i.toNat : Int) = i := Int.toNat_of_nonneg h
  exact this.symm
theorem sIdx_hom {α β : Type} {R : α → β → Prop} {li : Bool} {i : Int} {n : SN} {k : SN → SM α} {m : AM β} (h : ∀ j, aIdx i n.n = some j → Hom R (k ⟨li, j⟩) m) : Hom R (sIdx li i n k) m := by
  unfold sIdx
  refine .test fun hc => h _ ?_
  simp only [Bool.and_eq_true, decide_eq_true_eq] at hc
  have e := toNat_of hc.1
  rw [e]
  simp only [aIdx, Int.toNat_natCast, Int.ofNat_eq_natCast]
  show (bif Nat.blt i.toNat n.n then some i.toNat else none) = _
  rw [hc.2]
  rfl
theorem sBound_hom {α β : Type} {R : α → β → Prop} {v : Option SV} {dflt n : SN} {k : SN → SM α} {m : AM β} (h : ∀ j, aBound (v.map SV.den) dflt.n n.n = some j.n → Hom R (k j) m) : Hom R (sBound v dflt n k) m := by
  cases v with
  | none => exact h dflt rfl
  | some v =>
    cases v <;> first
      | exact .fail _
      | skip
    rename_i kk li i
    refine .test fun hc => h _ ?_
    simp only [Bool.and_eq_true, decide_eq_true_eq] at hc
    have e := toNat_of hc.1
    simp only [Option.map_some, SV.den, aBound, intOfV, Option.bind_some]
    rw [e]
    show (bif Nat.ble i.toNat n.n then some i.toNat else none) = _
    rw [hc.2]
    rfl
theorem aBound_le {v : Option Value} {d n j : Nat} (h : aBound v d n = some j) (hd : d ≤ n) : j ≤ n := by
  cases v with
  | none => simp only [aBound, Option.some.injEq] at h; omega
  | some v =>
    simp only [aBound, Option.bind_eq_some_iff] at h
    obtain ⟨i, _, h⟩ := h
    cases i with
    | ofNat x =>
      simp only [aIdxLe] at h
      cases hb : Nat.ble x n with
      | false => rw [hb] at h; cases h
      | true =>
        rw [hb] at h
        simp only [cond_true, Option.some.injEq] at h
        have := nat_ble hb
        omega
    | negSucc x => cases h

theorem take_drop_range (l : List UInt8) (lo hi : Nat) (h : hi ≤ l.length) : (l.take hi).drop lo = (List.range (hi - lo)).map fun i => l.getD (lo + i) 0 := by
  apply List.ext_getElem?
  intro i
  rw [List.getElem?_drop, List.getElem?_take, List.getElem?_map]
  by_cases hi' : lo + i < hi
  · rw [if_pos hi', List.getElem?_range (by omega)]
    simp only [Option.map_some, List.getD_eq_getElem?_getD]
    rw [List.getElem?_eq_getElem (by omega)]
    rfl
  · rw [if_neg hi', List.getElem?_eq_none (by simp; omega)]
    rfl
theorem extract_toList (s : ByteArray) (l h : Nat) : (s.extract l h).data.toList = (s.data.toList.take h).drop l := by
  rw [ByteArray.data_extract, Array.toList_extract, List.extract_eq_take_drop, List.drop_take]
theorem cutStr_den {x : SV} {s : ByteArray} (hx : x.den = .string s) (l h : SN) (hh : h.n ≤ s.size) : (cutStr x s l h).den = .string (s.extract l.n h.n) := by
  unfold cutStr
  cases (l.lit && h.lit && Nat.ble (Nat.sub h.n l.n) 64) with
  | false => rfl
  | true =>
    simp only [sel_true]
    split
    · rename_i bs hb
      obtain ⟨s', e1, e2⟩ := strBytes_den hb
      rw [hx] at e1
      cases e1
      rw [← e2, ← extract_toList, strL_den]
    · have hlen : h.n ≤ s.data.toList.length := by rw [Array.length_toList]; exact hh
      have := take_drop_range s.data.toList l.n h.n hlen
      show SV.den (.strL ((List.range (h.n - l.n)).map fun i => s.data.toList.getD (l.n + i) 0)) = _
      rw [← this, ← extract_toList, strL_den]
theorem sSliceStr_hom {x : SV} {s : ByteArray} (hx : x.den = .string s) (lo hi mx : Option SV) : HomN (sSliceStr x lo hi mx) (retO (sliceStr s (lo.map SV.den) (hi.map SV.den) (mx.map SV.den))) := by
  unfold sSliceStr
  cases mx with
  | some _ => exact .fail _
  | none =>
    simp only
    split
    · rename_i l s' n hs hn
      have := strOf_den hs
      rw [hx] at this
      cases this
      obtain ⟨s2, e1, e2⟩ := strLen_den hn
      rw [hx] at e1
      cases e1
      refine sBound_hom fun h hh => sBound_hom fun l hl => ?_
      rw [← e2] at hh
      have h1 := aBound_le hh (Nat.le_refl _)
      simp only [sliceStr, Option.map_none, hh, Option.bind_some]
      have hl' : aBound (lo.map SV.den) 0 h.n = some l.n := hl
      rw [hl']
      exact rv_hom (cutStr_den hx l h h1)
    · exact .fail _

theorem plusOff_den {off o : SOff} {k : SN} {s : Nat} (h : plusOff off k s = some o) : o.n = off.n + k.n * s := by
  cases off with
  | c n =>
    simp only [plusOff] at h
    cases hk : k.lit with
    | true => rw [hk] at h; simp only [sel_true, Option.some.injEq] at h; subst h; rfl
    | false =>
      rw [hk] at h
      simp only [sel_false] at h
      cases hz : Nat.beq n 0 with
      | true =>
        rw [hz] at h
        simp only [sel_true, Option.some.injEq] at h
        subst h
        have : n = 0 := Nat.eq_of_beq_eq_true hz
        subst this
        show k.n * s + 0 = 0 + k.n * s
        omega
      | false =>
      rw [hz] at h
      simp only [sel_false] at h
      cases hb : Nat.blt 0 s with
      | false => rw [hb] at h; cases h
      | true =>
        rw [hb] at h
        simp only [cond_true, Option.some.injEq] at h
        subst h
        show (n / s + k.n) * s + n % s = n + k.n * s
        have := Nat.div_add_mod' n s
        rw [Nat.add_mul]
        omega
  | el i w j =>
    simp only [plusOff] at h
    have eq : ∀ o', (bif Nat.beq s w then some (SOff.el (i + k.n) w j) else o') = some o → Nat.beq s w = true → o.n = (SOff.el i w j).n + k.n * s := fun o' h hb => by
      rw [hb] at h
      simp only [cond_true, Option.some.injEq] at h
      subst h
      obtain rfl := Nat.eq_of_beq_eq_true hb
      show (i + k.n) * s + j = i * s + j + k.n * s
      rw [Nat.add_mul]
      omega
    cases hk : k.lit with
    | true =>
      rw [hk] at h
      simp only [sel_true] at h
      cases hb : Nat.beq s w with
      | true => exact eq _ h hb
      | false =>
        rw [hb] at h
        simp only [cond_false, Option.some.injEq] at h
        subst h
        show i * w + (j + k.n * s) = i * w + j + k.n * s
        omega
    | false =>
      rw [hk] at h
      simp only [sel_false] at h
      cases hb : Nat.beq s w with
      | true => exact eq _ h hb
      | false => rw [hb] at h; cases h

theorem sSlice_hom (t : TypeId) (x : SV) (lo hi mx : Option SV) : HomN (sSlice P t x lo hi mx) (retO (aSlice P t x.den (lo.map SV.den) (hi.map SV.den) (mx.map SV.den))) := by
  unfold sSlice aSlice
  split
  · rename_i hu
    rw [hu]
    simp only
    cases hx : strOf x with
    | none =>
      unfold sSliceStr
      rw [hx]
      cases mx <;> exact .fail _
    | some p =>
      obtain ⟨l, s⟩ := p
      have e := strOf_den hx
      rw [e]
      exact sSliceStr_hom e lo hi mx
  · rename_i elem hu
    rw [hu]
    simp only
    cases hi' : P.info? elem with
    | none => exact .fail _
    | some inf =>
      simp only
      unfold sSliceSl
      cases mx with
      | some _ => exact .fail _
      | none =>
        simp only
        split
        · rename_i b off n c
          refine .bifL fun hc => sBound_hom fun h hh => sBound_hom fun l hl => ?_
          split
          · rename_i o ho
            have hl' : aBound (lo.map SV.den) 0 h.n = some l.n := hl
            have hm : aBound (none : Option Value) n.n n.n = some n.n := rfl
            simp only [SV.den, sliceSl, Option.map_none, Option.isSome_none, Bool.false_and, cond_false, hm, Option.bind_some, hh, hl', okAt, Option.isNone_none, Bool.true_and, hc, cond_true]
            obtain rfl := Nat.eq_of_beq_eq_true hc
            refine rv_hom ?_
            simp only [SV.den, plusOff_den ho]
            rfl
          · exact .fail _
        · rename_i n _
          refine sBound_hom fun h hh => sBound_hom fun l hl => ?_
          have hl' : aBound (lo.map SV.den) 0 h.n = some l.n := hl
          have hh' : aBound (hi.map SV.den) n n = some h.n := hh
          have hm : aBound (none : Option Value) n n = some n := rfl
          simp only [SV.den, sliceSl, Option.map_none, Option.isSome_none, Bool.false_and, cond_false, hm, Option.bind_some, hh', hl']
          exact rv_hom rfl
        · exact .fail _
  · exact .fail _

/-! Rows. -/
def rowDen : SRow → List Value
  | .lits l => dens l
  | .arr n fs => arrCells n.n fs
def RowFits (n : SN) (size : Nat) : SRow → Prop
  | .lits l => l.length = n.n * size ∧ n.lit = true
  | .arr m fs => m = n ∧ fs.length = size ∧ 0 < size
theorem rowDen_length {n : SN} {size : Nat} {r : SRow} (h : RowFits n size r) : (rowDen r).length = n.n * size := by
  cases r with
  | lits l => rw [rowDen, dens_length]; exact h.1
  | arr m fs => obtain ⟨rfl, rfl, _⟩ := h; exact arrCells_length _ _
theorem shift_zero (fs : List SF) : fs.map (·.shift 0) = fs := by
  have : ∀ f : SF, f.shift 0 = f := fun f => by cases f <;> simp [SF.shift]
  conv => rhs; rw [← List.map_id fs]
  exact List.map_congr_left fun f _ => this f
theorem rowS_hom {α β : Type} {R : α → β → Prop} {k : SRow → SM α} {K' : List Value → AM β} {n : SN} {size : Nat} (hk : ∀ r, RowFits n size r → Hom R (k r) (K' (rowDen r))) (o : SObj) (off : SOff) :
    Hom R (rowS o off n size k) (readA o.den off.n (Nat.mul n.n size) K') := by
  have arr : ∀ (len : SN) (fs : List SF) (rw : Bool) (lo : Nat) (off : Nat), fs.length = size → 0 < size → off = lo * size → lo + n.n ≤ len.n → Hom R (k (.arr n (fs.map (·.shift lo)))) (readA (SObj.den (.arr len fs rw)) off (Nat.mul n.n size) K') := by
    intro len fs rw lo off hs h0 ho hl
    subst ho
    have e : takeCells (arrCells len.n fs) (lo * size) (Nat.mul n.n size) = some (arrCells n.n (fs.map (·.shift lo))) := by
      unfold takeCells
      have hle : Nat.ble (Nat.add (lo * size) (Nat.mul n.n size)) (arrCells len.n fs).length = true := by
        rw [arrCells_length, hs]
        refine Nat.ble_eq_true_of_le ?_
        show lo * size + n.n * size ≤ len.n * size
        rw [← Nat.add_mul]
        exact Nat.mul_le_mul_right _ hl
      rw [hle]
      simp only [cond_true, Option.some.injEq]
      have := arr_shift len.n lo n.n fs hl
      rw [hs] at this
      exact this
    simp only [SObj.den, readA, e]
    exact hk _ ⟨rfl, by simp [hs], h0⟩
  cases o with
  | raw o => exact .fail _
  | cells l rw =>
    cases off with
    | el i w j => exact .fail _
    | c o =>
      simp only [rowS, readA, SObj.den, SOff.n, takeS_den]
      refine .bifL fun hn => ?_
      cases ht : takeS l o (Nat.mul n.n size) with
      | none => exact .fail _
      | some c =>
        refine hk (.lits c) ⟨?_, hn⟩
        unfold takeS at ht
        cases hb : Nat.ble (Nat.add o (Nat.mul n.n size)) l.length with
        | false => rw [hb] at ht; cases ht
        | true =>
          rw [hb] at ht
          simp only [cond_true, Option.some.injEq] at ht
          subst ht
          have h3 : o + n.n * size ≤ l.length := nat_ble hb
          have h4 : Nat.mul n.n size = n.n * size := rfl
          rw [List.length_take, List.length_drop, h4]
          omega
  | arr len fs rw =>
    simp only [rowS]
    refine .bifL fun hc => ?_
    simp only [Bool.and_eq_true] at hc
    have hs : fs.length = size := (Nat.eq_of_beq_eq_true hc.1).symm
    have h0 : 0 < size := lt_of_blt hc.2
    cases off with
    | c o =>
      simp only
      refine .bifL fun hm => .test fun hl => ?_
      have hm : o % size = 0 := Nat.eq_of_beq_eq_true hm
      have hl : o / size + n.n ≤ len.n := nat_ble hl
      have ho : o = o / size * size := by have := Nat.div_add_mod' o size; omega
      have main := arr len fs rw (o / size) o hs h0 ho hl
      cases hz : Nat.beq o 0 with
      | false => exact main
      | true =>
        have : o = 0 := Nat.eq_of_beq_eq_true hz
        subst this
        have e : 0 / size = 0 := Nat.zero_div _
        rw [e, shift_zero] at main
        exact main
    | el i w j =>
      simp only
      refine .bifL fun hm => .node _ _ _ _ (fun hl => ?_) fun _ => .fail _
      simp only [Bool.and_eq_true] at hm
      obtain rfl := Nat.eq_of_beq_eq_true hm.1
      have hj : j = 0 := Nat.eq_of_beq_eq_true hm.2
      subst hj
      exact arr len fs rw i _ hs h0 (by simp [SOff.n]) (nat_ble hl)

theorem bytes_den (bs : List UInt8) : dens (bs.map byteSV) = bs.map fun b => Value.int .u8 b.toNat := by
  rw [dens_map, List.map_map]
  rfl
theorem byteF_den (s : ByteArray) : arrCells s.size [byteF s] = valsOfBytes s := by
  unfold arrCells valsOfBytes rowAt
  simp only [List.map_cons, List.map_nil, dens, byteF, SF.get, SV.den]
  have : s.size = s.data.toList.length := by rw [Array.length_toList]; rfl
  rw [this]
  apply List.ext_getElem?
  intro i
  have hf : ((List.range s.data.toList.length).flatMap fun i => [Value.int .u8 ((s.data.toList.getD i 0).toNat : Int)]) = (List.range s.data.toList.length).map fun i => Value.int .u8 ((s.data.toList.getD i 0).toNat : Int) := by
    induction (List.range s.data.toList.length) with
    | nil => rfl
    | cons x l ih => simp only [List.flatMap_cons, List.map_cons, ih]; rfl
  rw [hf, List.getElem?_map, List.getElem?_map]
  by_cases hi : i < s.data.toList.length
  · rw [List.getElem?_range hi, List.getElem?_eq_getElem hi]
    simp only [Option.map_some, List.getD_eq_getElem?_getD, List.getElem?_eq_getElem hi, Option.getD_some]
  · rw [List.getElem?_eq_none (by simp at hi ⊢; omega), List.getElem?_eq_none (by omega)]
    rfl
theorem argRow_hom {size : Nat} {x : SV} {k : SN → SRow → SM SNext} {K' : Nat → List Value → AM ANext} (hk : ∀ m r, RowFits m size r → HomN (k m r) (K' m.n (rowDen r))) : HomN (argRow size x k) (argCells size x.den K') := by
  have str : ∀ x : SV, HomN (bif Nat.beq size 1 then (match strBytes x with
    | some bs => k ⟨true, bs.length⟩ (.lits (bs.map byteSV))
    | none => match strOf x with
      | some (_, s) => k ⟨false, s.size⟩ (.arr ⟨false, s.size⟩ [byteF s])
      | none => .fail) else .fail) (argCells size x.den K') := by
    intro x
    refine .bifL fun hs => ?_
    have hs : size = 1 := Nat.eq_of_beq_eq_true hs
    split
    · rename_i bs hb
      obtain ⟨s, e1, e2⟩ := strBytes_den hb
      rw [e1]
      have := hk ⟨true, bs.length⟩ (.lits (bs.map byteSV)) ⟨by simp [hs], rfl⟩
      rw [rowDen, bytes_den, ← e2] at this
      have hz : s.data.toList.length = s.size := by rw [Array.length_toList]; rfl
      rw [← e2]
      have e3 : argCells size (Value.string s) K' = K' s.data.toList.length (valsOfBytes s) := by rw [hz]; rfl
      rw [e3]
      exact this
    · split
      · rename_i s hb
        have e1 := strOf_den hb
        rw [e1]
        have := hk ⟨false, s.size⟩ (.arr ⟨false, s.size⟩ [byteF s]) ⟨rfl, by simp [hs], by omega⟩
        rw [rowDen, byteF_den] at this
        exact this
      · exact .fail _
  unfold argRow
  split
  · rename_i b off n _
    simp only [SV.den, argCells, okAt, Option.isNone_none, cond_true, aCells_eq]
    exact .get _ _ _ fun o => rowS_hom (fun r hr => hk n r hr) o off
  · exact hk ⟨true, 0⟩ (.lits []) ⟨by simp, rfl⟩
  · exact str _

theorem cellAt_den (l : List SV) (w j i : Nat) (h : i * w + j < l.length) : (dens l)[i * w + j]? = some (cellAt l w j i).den := by
  rw [dens_get]
  show _ = some (SV.den (l.getD (i * w + j) sUndef))
  rw [List.getD_eq_getElem?_getD, List.getElem?_eq_getElem h]
  rfl
theorem fieldAt_den {l : List SV} {w m j : Nat} {f : SF} (h : fieldAt l w m j = some f) (i : Nat) (hi : i < m) : (f.get i).den = (cellAt l w j i).den := by
  have all : ∀ p : Nat → Bool, (List.range m).all p = true → p i = true := fun p hp => List.all_eq_true.1 hp i (List.mem_range.2 hi)
  unfold fieldAt at h
  split at h
  · rename_i k _ _ _
    cases hb : (List.range m).all (fun i => isIntK k (cellAt l w j i)) with
    | false => rw [hb] at h; cases h
    | true =>
      rw [hb] at h
      simp only [cond_true, Option.some.injEq] at h
      subst h
      have := all _ hb
      simp only [SF.get, SV.den]
      generalize cellAt l w j i = v at this
      cases v <;> simp [isIntK] at this
      subst this
      rfl
  · cases hb : (List.range m).all (fun i => isBoolK (cellAt l w j i)) with
    | false => rw [hb] at h; cases h
    | true =>
      rw [hb] at h
      simp only [cond_true, Option.some.injEq] at h
      subst h
      have := all _ hb
      simp only [SF.get, SV.den]
      generalize cellAt l w j i = v at this
      cases v <;> simp [isBoolK] at this
      rfl
  · cases hb : (List.range m).all (fun i => isStrK (cellAt l w j i)) with
    | false => rw [hb] at h; cases h
    | true =>
      rw [hb] at h
      simp only [cond_true, Option.some.injEq] at h
      subst h
      have := all _ hb
      simp only [SF.get, SV.den]
      generalize cellAt l w j i = v at this
      unfold isStrK at this
      unfold valStr
      cases hs : strOf v with
      | none => rw [hs] at this; cases this
      | some p => obtain ⟨l, s⟩ := p; rw [strOf_den hs]
theorem fieldsOf_den {l : List SV} {w m : Nat} (hl : l.length = m * w) : ∀ (j : Nat) (fs : List SF), j ≤ w → fieldsOf l w m j = some fs → fs.length = j ∧ ∀ i, i < m → dens (rowAt fs i) = ((dens l).drop (i * w)).take j
  | 0, fs, _, h => by
    simp only [fieldsOf, Option.some.injEq] at h
    subst h
    exact ⟨rfl, fun i _ => by simp [rowAt, dens]⟩
  | j + 1, fs, hj, h => by
    simp only [fieldsOf] at h
    cases hr : fieldsOf l w m j with
    | none => rw [hr] at h; cases h
    | some gs =>
      rw [hr] at h
      simp only at h
      cases hf : fieldAt l w m j with
      | none => rw [hf] at h; cases h
      | some f =>
        rw [hf] at h
        simp only [Option.some.injEq] at h
        subst h
        obtain ⟨h1, h2⟩ := fieldsOf_den hl j gs (by omega) hr
        refine ⟨by simp [h1], fun i hi => ?_⟩
        have hlt : i * w + j < l.length := by
          rw [hl]
          have : i * w + w ≤ m * w := by
            calc i * w + w = (i + 1) * w := by rw [Nat.succ_mul]
              _ ≤ m * w := Nat.mul_le_mul_right _ hi
          omega
        have e : dens (rowAt (gs ++ [f]) i) = dens (rowAt gs i) ++ [(f.get i).den] := by
          simp [rowAt, dens_append, dens]
        rw [e, h2 i hi, fieldAt_den hf i hi, List.take_add_one, List.getElem?_drop, cellAt_den l w j i hlt]
        rfl
theorem chunks (L : List Value) (w : Nat) : ∀ m, L.length = m * w → (List.range m).flatMap (fun i => (L.drop (i * w)).take w) = L := by
  suffices ∀ m, m * w ≤ L.length → (List.range m).flatMap (fun i => (L.drop (i * w)).take w) = L.take (m * w) from fun m h => by
    rw [this m (by omega), List.take_of_length_le (by omega)]
  intro m
  induction m with
  | zero => intro _; simp
  | succ m ih =>
    intro h
    have : m * w ≤ L.length := by rw [Nat.succ_mul] at h; omega
    rw [List.range_succ, List.flatMap_append, ih this, Nat.succ_mul, List.take_add]
    simp
theorem flatMap_congr' {α : Type} {f g : Nat → List α} : ∀ (l : List Nat), (∀ x ∈ l, f x = g x) → l.flatMap f = l.flatMap g
  | [], _ => rfl
  | x :: l, h => by simp only [List.flatMap_cons]; rw [h x (by simp), flatMap_congr' l fun y hy => h y (by simp [hy])]
theorem arrOf_den {size : Nat} {n : SN} {r : SRow} {fs : List SF} (h : arrOf size n r = some fs) (hr : RowFits n size r) : fs.length = size ∧ arrCells n.n fs = rowDen r := by
  cases r with
  | arr m gs =>
    simp only [arrOf, Option.some.injEq] at h
    subst h
    obtain ⟨rfl, h2, _⟩ := hr
    exact ⟨h2, rfl⟩
  | lits l =>
    simp only [arrOf] at h
    obtain ⟨h1, h2⟩ := fieldsOf_den hr.1 size fs (Nat.le_refl _) h
    refine ⟨h1, ?_⟩
    unfold arrCells rowDen
    rw [flatMap_congr' _ fun i hi => h2 i (List.mem_range.1 hi)]
    exact chunks _ _ _ (by rw [dens_length]; exact hr.1)
theorem SF.app_get {len : Nat} {f g x : SF} (h : f.app len g = some x) (i : Nat) : (x.get i).den = if i < len then (f.get i).den else (g.get (i - len)).den := by
  have hb : Nat.blt i len = decide (i < len) := by
    rw [Bool.eq_iff_iff, decide_eq_true_iff]
    exact ⟨lt_of_blt, blt_true⟩
  cases f with
  | int k f =>
    cases g <;> simp only [SF.app] at h <;> try (cases h)
    rename_i k' g
    by_cases hk : k = k'
    · subst hk
      simp only [decide_true, cond_true, Option.some.injEq] at h
      subst h
      simp only [SF.get, SV.den, hb]
      by_cases hi : i < len <;> simp [hi]
    · simp [hk] at h
  | bool f =>
    cases g <;> simp only [SF.app, Option.some.injEq] at h <;> try (cases h)
    simp only [SF.get, SV.den, hb]
    by_cases hi : i < len <;> simp [hi]
  | str f =>
    cases g <;> simp only [SF.app, Option.some.injEq] at h <;> try (cases h)
    simp only [SF.get, SV.den, hb]
    by_cases hi : i < len <;> simp [hi]
  | raw v => simp [SF.app] at h
theorem appFs_spec {len : Nat} : ∀ {f g fs : List SF}, appFs len f g = some fs → fs.length = f.length ∧ g.length = f.length ∧ ∀ i, dens (rowAt fs i) = if i < len then dens (rowAt f i) else dens (rowAt g (i - len))
  | [], [], fs, h => by
    simp only [appFs, Option.some.injEq] at h
    subst h
    exact ⟨rfl, rfl, fun i => by simp [rowAt]⟩
  | [], _ :: _, fs, h => by simp [appFs] at h
  | _ :: _, [], fs, h => by simp [appFs] at h
  | f :: l, g :: m, fs, h => by
    simp only [appFs] at h
    cases hx : f.app len g with
    | none => rw [hx] at h; cases h
    | some x =>
      rw [hx] at h
      simp only at h
      cases hr : appFs len l m with
      | none => rw [hr] at h; cases h
      | some r =>
        rw [hr] at h
        simp only [Option.some.injEq] at h
        subst h
        obtain ⟨h1, h2, h3⟩ := appFs_spec hr
        refine ⟨by simp [h1], by simp [h2], fun i => ?_⟩
        have e1 := SF.app_get hx i
        have e2 := h3 i
        simp only [rowAt, List.map_cons, dens] at e2 ⊢
        rw [e1, e2]
        by_cases hi : i < len <;> simp [hi]
theorem arr_append {n m : Nat} {f g fs : List SF} (h : appFs n f g = some fs) : arrCells (n + m) fs = arrCells n f ++ arrCells m g := by
  obtain ⟨_, _, h3⟩ := appFs_spec h
  induction m with
  | zero =>
    simp only [Nat.add_zero]
    have : arrCells 0 g = [] := rfl
    rw [this, List.append_nil]
    exact flatMap_congr' _ fun i hi => by rw [h3 i, if_pos (List.mem_range.1 hi)]
  | succ m ih =>
    have e : ∀ (k : Nat) (x : List SF), arrCells (k + 1) x = arrCells k x ++ dens (rowAt x k) := fun k x => by simp [arrCells, List.range_succ]
    rw [← Nat.add_assoc, e, ih, e m g, h3 (n + m), if_neg (by omega), List.append_assoc, Nat.add_sub_cancel_left]
theorem rowObj_den (r : SRow) : (rowObj r).den = .cells (rowDen r) true := by cases r <;> rfl
theorem rowApp_den {size : Nat} {n m : SN} {x y : SRow} {o : SObj} (h : rowApp size n m x y = some o) (hx : RowFits n size x) (hy : RowFits m size y) : o.den = .cells (rowDen x ++ rowDen y) true := by
  have gen : ∀ x y : SRow, (match arrOf size n x, arrOf size m y with
    | some f, some g => match appFs n.n f g with
      | some fs => some (SObj.arr ⟨n.lit && m.lit, n.n + m.n⟩ fs true)
      | none => none
    | _, _ => none) = some o → RowFits n size x → RowFits m size y → o.den = .cells (rowDen x ++ rowDen y) true := by
    intro x y h hx hy
    split at h
    · rename_i f g hf hg
      split at h
      · rename_i fs ha
        cases h
        obtain ⟨_, e1⟩ := arrOf_den hf hx
        obtain ⟨_, e2⟩ := arrOf_den hg hy
        simp only [SObj.den, arr_append ha, e1, e2]
      · cases h
    · cases h
  unfold rowApp at h
  split at h
  · cases h
    simp only [SObj.den, rowDen, dens_append]
  · cases h
    rw [rowObj_den]
    simp [rowDen, dens]
  · exact gen _ _ h hx hy

theorem appendToS_hom {size : Nat} {base : SV} {m : SN} {new : SRow} {a : Option Addr} {len c : Nat} (hb : base.den = .slice a len c) (hn : RowFits m size new) : HomN (appendToS id size base m new) (appendTo id size a len c m.n (rowDen new)) := by
  unfold appendToS
  split
  · rename_i n _
    cases hb
    refine .bifL fun hz => ?_
    simp only [appendTo, hz, cond_true]
    exact .new _ _ _ _ (rowObj_den new) (rv_hom rfl)
  · rename_i b off n _
    cases hb
    simp only [appendTo]
    refine .get _ _ _ fun o => ?_
    refine .bifL fun hc => ?_
    simp only [Bool.and_eq_true] at hc
    obtain ⟨hc1, hc2⟩ := hc
    have conv : ∀ (cs : List Value) (rw : Bool), o.den = .cells cs rw → rw = true → HomN (rowS o off n size fun old => match rowApp size n m old new with
          | some x => .kill b (.new x (rv (.sl id (.c 0) ⟨n.lit && m.lit, n.n + m.n⟩ size)))
          | none => .fail)
        (bif okAt ⟨b, off.n, none⟩ && rw && Nat.beq c size then
          match takeCells cs off.n (n.n * size) with
          | some old => .kill b <| .new (.cells (old ++ rowDen new) true) (retV (sl id (n.n + m.n) size))
          | none => .fail
        else .fail) := by
      intro cs rw ho hrw
      subst hrw
      simp only [okAt, Option.isNone_none, Bool.true_and, hc1, cond_true]
      have := rowS_hom (R := NR) (k := fun old => match rowApp size n m old new with
          | some x => .kill b (.new x (rv (.sl id (.c 0) ⟨n.lit && m.lit, n.n + m.n⟩ size)))
          | none => .fail) (K' := fun old => .kill b <| .new (.cells (old ++ rowDen new) true) (retV (sl id (n.n + m.n) size))) (n := n) (size := size) (fun r hr => by
            split
            · rename_i x hx
              exact .kill _ _ _ (.new _ _ _ _ (rowApp_den hx hr hn) (rv_hom rfl))
            · exact .fail _) o off
      rw [ho] at this
      exact this
    cases o with
    | raw o => cases hc2
    | cells l rw => exact conv _ _ rfl hc2
    | arr l fs rw => exact conv _ _ rfl hc2
  · exact .fail _

theorem rowOK_den {size : Nat} {m : SN} {r : SRow} (h : rowOK size m r = true) (hf : RowFits m size r) : (rowDen r).all notAgg = true ∧ Nat.beq (rowDen r).length (m.n * size) = true := by
  refine ⟨?_, by rw [rowDen_length hf]; exact Nat.beq_refl _⟩
  cases r with
  | lits l =>
    simp only [rowOK, Bool.and_eq_true] at h
    rw [rowDen, notAggsS_den]
    exact h.1.1
  | arr n fs =>
    simp only [rowOK, Bool.and_eq_true, List.all_eq_true] at h
    rw [rowDen, List.all_eq_true]
    intro v hv
    unfold arrCells at hv
    simp only [List.mem_flatMap] at hv
    obtain ⟨i, _, hv⟩ := hv
    rw [dens_map] at hv
    simp only [rowAt, List.map_map, List.mem_map, Function.comp] at hv
    obtain ⟨f, hf, rfl⟩ := hv
    have := h.2 f hf
    cases f <;> first
      | rfl
      | exact this
theorem sliceLen_den {x : SV} {n : SN} (h : sliceLen x = some n) : ∃ a c, x.den = .slice a n.n c := by
  unfold sliceLen at h
  split at h
  · cases h; exact ⟨_, _, rfl⟩
  · cases h; exact ⟨_, _, rfl⟩
  · cases h
theorem sAppend_hom (ts : Array TypeId) (args : List SV) : HomN (sAppend P id ts args) (oAppend P id ts (dens args).toArray) := by
  unfold sAppend oAppend
  split
  · rename_i st xt h0 h1
    rw [h0, h1]
    simp only
    split
    · rename_i elem xd hu hv
      rw [hu, hv]
      simp only
      cases xd <;> first
        | exact .fail _
        | skip
      all_goals
        simp only
        split
        · rename_i inf s x rest hi
          rw [hi]
          have ha0 : (dens (s :: x :: rest)).toArray[0]? = some s.den := by simp [dens]
          have ha1 : (dens (s :: x :: rest)).toArray[1]? = some x.den := by simp [dens]
          rw [ha0, ha1]
          simp only
          split
          · rename_i len hl
            obtain ⟨a, c, hs⟩ := sliceLen_den hl
            rw [hs]
            simp only
            refine argRow_hom fun m r hr => ?_
            refine .cond (fun hz => ?_) fun hz => ?_
            · rw [hz]
              exact rv_hom hs
            · rw [hz]
              refine .bifL fun hok => .test fun hroom => ?_
              simp only [Bool.and_eq_true] at hok hroom
              obtain ⟨⟨k1, k2⟩, k3⟩ := hok
              obtain ⟨k4, k5⟩ := rowOK_den k2 hr
              have : appendOK P elem inf len.n m.n (rowDen r) = true := by
                simp only [appendOK, Bool.and_eq_true]
                exact ⟨⟨⟨⟨⟨k1, hroom.1⟩, k4⟩, k5⟩, hroom.2⟩, k3⟩
              simp only [cond_false, this, cond_true]
              exact appendToS_hom hs hr
          · exact .fail _
        · exact .fail _
    · exact .fail _
  · exact .fail _
end
end Go.Ev
end
