/- The abstract evaluator of Go code: definitions. Values without references are the model's own; references go to numbered abstract blocks; every function here reduces in the kernel. -/
import Derived.CallsIn
import Derived.RangeFuncIn
namespace Go.Sx
noncomputable section
set_option linter.unusedVariables false

/-! ### stores by numbers, tables -/
inductive Tr (α : Type) where
  | e
  | n (l : Tr α) (v : Option α) (r : Tr α)

def Tr.get {α : Type} (t : Tr α) : Nat → Option α :=
  Tr.rec (motive := fun _ => Nat → Option α) (fun _ => none)
    (fun _ v _ gl gr i => Bool.rec (Bool.rec (gr (Nat.div (Nat.sub i 1) 2)) (gl (Nat.div i 2)) (Nat.beq (Nat.mod i 2) 1)) v (Nat.beq i 0)) t

def Tr.set {α : Type} (fuel : Nat) : Tr α → Nat → Option α → Tr α :=
  Nat.rec (motive := fun _ => Tr α → Nat → Option α → Tr α) (fun t _ _ => t)
    (fun _ ih t i x => Tr.rec (motive := fun _ => Tr α)
      (Bool.rec (Bool.rec (.n .e none (ih .e (Nat.div (Nat.sub i 1) 2) x)) (.n (ih .e (Nat.div i 2) x) none .e) (Nat.beq (Nat.mod i 2) 1)) (.n .e x .e) (Nat.beq i 0))
      (fun l v r _ _ => Bool.rec (Bool.rec (.n l v (ih r (Nat.div (Nat.sub i 1) 2) x)) (.n (ih l (Nat.div i 2) x) v r) (Nat.beq (Nat.mod i 2) 1)) (.n l x r) (Nat.beq i 0)) t) fuel

def Tr.put {α : Type} (t : Tr α) (i : Nat) (x : α) : Tr α := Tr.set (i + 1) t i (some x)
def Tr.del {α : Type} (t : Tr α) (i : Nat) : Tr α := Tr.set (i + 1) t i none
def Tr.ofList {α : Type} : List α → Nat → Tr α → Tr α
  | [], _, t => t
  | x :: r, i, t => Tr.ofList r (i + 1) (t.put i x)

/-- what is told of a type -/
inductive TD where
  | slice (e : TypeId)
  | array (n : Nat) (e : TypeId)
  | struct (fs : List (Nat × TypeId))
  | str
  | int (k : IntKind)
  | ptr (e : TypeId)
  | uptr
  | map (k e : TypeId)
  | other

structure TI where
  d : TD
  size : Nat
  bytes : Nat
  zero : List Value

inductive TT (α : Type) where
  | leaf
  | node (l : TT α) (k : Nat) (v : α) (r : TT α)

def TT.get {α : Type} (t : TT α) (n : Nat) : Option α :=
  TT.rec (motive := fun _ => Option α) none (fun _ k v _ gl gr => Bool.rec (Bool.rec gr gl (Nat.blt n k)) (some v) (Nat.beq n k)) t

structure Tab where
  ty : TT TI
  fn : TT Func

/-! ### abstract values, blocks, states -/
/-- what is told of a slice's room: nothing; the whole of a row of elements of so many cells; so much at least; so much -/
inductive Ow where
  | no
  | own (e : Nat)
  | room (k : Nat)
  | cap (c : Nat)
  deriving Inhabited
inductive SV where
  | pl (v : Value)
  | ptr (b off : Nat)
  | sl (b off len : Nat) (own : Ow)
  | agg (cs : List SV)
  | tup (cs : List SV)
  | fn (f : Fn) (cap : List SV)
  | any
  | yld (b : Nat)
  | mp (b : Nat)
  | dat (b off len : Nat)
  | bm (f : Fn) (cs : List SV)
  deriving Inhabited

/-- an activation's part: slots, what a slot holds that isn't told, how many there are; the marks on its deferred calls; of which loop's round it is (not told; none; that) -/
structure Fra where
  sl : Tr SV
  df : SV
  nt : Nat
  dm : List Nat
  rd : Option (Option Nat)
inductive AObj where
  | cells (cs : List SV) (wr : Bool) (el : TypeId)
  | obj (o : Obj)
  | lrec (st : LoopState) (pe : Option Code) (f : Fra) (ps : List Tmp) (asg body : Code) (d : Nat)

def AObj.wrB : AObj → Bool
  | .cells _ wr _ => wr
  | _ => true
abbrev Heap := Tr AObj

/-- what a run is told ahead, by region and operation: a value; that a check stands; a block's cells; how a loop is left -/
inductive Hint where
  | val (r i : Nat) (v : SV)
  | chk (r i : Nat)
  | blk (r i : Nat) (cs : List SV)
  | lp (r : Nat) (ss bs : List Nat) (e : Exit) (ss' : List (Nat × SV)) (ups : List (Nat × Option AObj)) (nx : Nat)
  | cl (f : FuncId) (bs : List Nat) (sv : SV) (ups : List (Nat × Option AObj)) (nx : Nat)
  | go (f : FuncId)
  | app (r i : Nat) (old new : List SV)
  | mk (r i n : Nat)
/-- memory's part: blocks, the next block's number (even; odd ones are package variables), the least block number that was turned, hints that are left, what is owed -/
structure Me where
  h : Heap
  nx : Nat
  wm : Nat
  hs : List Hint
  vc : List Prop
structure St where
  f : Fra
  m : Me

def Me.put (s : Me) (b : Nat) (o : AObj) : Me := match s with | ⟨h, nx, wm, hs, vc⟩ => ⟨h.put b o, nx, Nat.min wm b, hs, vc⟩
def Me.del (s : Me) (b : Nat) : Me := match s with | ⟨h, nx, wm, hs, vc⟩ => ⟨h.del b, nx, Nat.min wm b, hs, vc⟩
def Me.new (s : Me) (o : AObj) : Me := match s with | ⟨h, nx, wm, hs, vc⟩ => ⟨h.put nx o, nx + 2, wm, hs, vc⟩
def Me.need (s : Me) (hs : List Hint) (p : Prop) : Me := match s with | ⟨h, nx, wm, _, vc⟩ => ⟨h, nx, wm, hs, p :: vc⟩
def Me.setHs (s : Me) (hs : List Hint) : Me := match s with | ⟨h, nx, wm, _, vc⟩ => ⟨h, nx, wm, hs, vc⟩
def Me.setWm (s : Me) (x : Nat) : Me := match s with | ⟨h, nx, _, hs, vc⟩ => ⟨h, nx, x, hs, vc⟩
def Fra.put (f : Fra) (d : Option Tmp) (v : SV) : Option Fra :=
  match d with
  | some t => match f with | ⟨sl, df, nt, dm, rd⟩ => match Nat.blt t nt with | true => some ⟨sl.put t v, df, nt, dm, rd⟩ | false => none
  | none => some f

def undefS : SV := .pl undef

/-! ### operands -/
def Fra.get (f : Fra) (t : Nat) : SV := match f with | ⟨sl, df, _, _, _⟩ => match sl.get t with | some v => v | none => df
def evO (f : Fra) : Operand → SV
  | .tmp t => f.get t
  | .const v => .pl v
  | .global g => match Nat.blt g 64 with | true => .ptr (2 * g + 1) 0 | false => .any
  | .func f => .pl (.func (.func f) #[] #[])

def SV.pl? : SV → Option Value
  | .pl v => some v
  | _ => none

def plAll : List SV → Option (List Value)
  | [] => some []
  | x :: r => match x with
    | .pl v => match plAll r with | some l => some (v :: l) | none => none
    | _ => none

def mkAgg (cs : List SV) : SV := match plAll cs with | some l => .pl (.agg l.toArray) | none => .agg cs
def mkTup (cs : List SV) : SV := match plAll cs with | some l => .pl (.tuple l.toArray) | none => .tup cs
def mkFn (f : Fn) (cs : List SV) : SV := match plAll cs with | some l => .pl (.func f #[] l.toArray) | none => .fn f cs

def plCells (v : Value) : List SV := v.cells.toList.map .pl
def oneV : Value → Bool
  | .agg _ => false
  | .tuple _ => false
  | _ => true
def oneS : SV → Bool
  | .pl v => oneV v
  | .ptr _ _ => true
  | .sl _ _ _ _ => true
  | .fn _ _ => true
  | .yld _ => true
  | .mp _ => true
  | .dat _ _ _ => true
  | .bm _ _ => true
  | _ => false
def allOne : List SV → Bool
  | [] => true
  | x :: r => match oneS x with | true => allOne r | false => false
def flatS : SV → List SV
  | .agg cs => cs
  | .pl v => plCells v
  | x => [x]
/-- a value's cells, if each of them is one -/
def cellsS (x : SV) : Option (List SV) := match allOne (flatS x) with | true => some (flatS x) | false => none

def listAt {α : Type} (l : List α) : Nat → Option α :=
  List.rec (motive := fun _ => Nat → Option α) (fun _ => none) (fun x _ ih n => Nat.rec (motive := fun _ => Option α) (some x) (fun n _ => ih n) n) l

/-! ### whole numbers -/
def ltF : Int → Int → Bool
  | .ofNat a, .ofNat b => Nat.blt a b
  | .negSucc _, .ofNat _ => true
  | .ofNat _, .negSucc _ => false
  | .negSucc a, .negSucc b => Nat.blt b a
def leF : Int → Int → Bool
  | .ofNat a, .ofNat b => Nat.ble a b
  | .negSucc _, .ofNat _ => true
  | .ofNat _, .negSucc _ => false
  | .negSucc a, .negSucc b => Nat.ble b a
def eqF : Int → Int → Bool
  | .ofNat a, .ofNat b => Nat.beq a b
  | .negSucc _, .ofNat _ => false
  | .ofNat _, .negSucc _ => false
  | .negSucc a, .negSucc b => Nat.beq b a
def wrap64F (x : Int) : Int :=
  match x with
  | .ofNat n => match Nat.blt n 9223372036854775808 with | true => .ofNat n | false => IntKind.i64.wrap x
  | .negSucc n => match Nat.blt n 9223372036854775808 with | true => .negSucc n | false => IntKind.i64.wrap x
def wrapF (k : IntKind) (x : Int) : Int :=
  match k with
  | .i64 => wrap64F x
  | _ => k.wrap x
def sameKind : IntKind → IntKind → Bool
  | .i8, .i8 | .i16, .i16 | .i32, .i32 | .i64, .i64 | .u8, .u8 | .u16, .u16 | .u32, .u32 | .u64, .u64 => true
  | _, _ => false

def binInt (op : BinOp) (k : IntKind) (a b : Int) : Option Value :=
  match op with
  | .add => some (.int k (wrapF k (a + b)))
  | .sub => some (.int k (wrapF k (a - b)))
  | .mul => some (.int k (wrapF k (a * b)))
  | .eql => some (.bool (eqF a b))
  | .neq => some (.bool (!eqF a b))
  | .lss => some (.bool (ltF a b))
  | .leq => some (.bool (leF a b))
  | .gtr => some (.bool (ltF b a))
  | .geq => some (.bool (leF b a))
  | _ => none

def binFast2 (op : BinOp) (k : IntKind) (a : Int) (y : Value) : Option Value :=
  match y with
  | .int k' b => match sameKind k k' with
    | true => binInt op k a b
    | false => none
  | _ => none
def binFast1 (op : BinOp) (x y : Value) : Option Value :=
  match x with
  | .int k a => binFast2 op k a y
  | _ => none
def binFast (op : BinOp) (x y : SV) : Option Value :=
  match x with
  | .pl a => match y with
    | .pl b => binFast1 op a b
    | _ => none
  | _ => none

def isShift : BinOp → Bool
  | .shl | .shr => true
  | _ => false
/-- what a shift gives -/
def shV (op : BinOp) (k : IntKind) (a b : Int) : Int :=
  match op with
  | .shl => k.wrap (a * 2 ^ (min b.toNat k.bits))
  | _ => a.fdiv (2 ^ (min b.toNat k.bits))
def shiftArgs (op : BinOp) (x y : SV) : Option (IntKind × Int × Int) :=
  match isShift op with
  | true => match x with
    | .pl (.int k a) => match y with
      | .pl (.int _ b) => some (k, a, b)
      | _ => none
    | _ => none
  | false => none
def shiftFast (op : BinOp) (x y : SV) : Option Value :=
  match shiftArgs op x y with
  | some (k, a, b) => match ltF b 0 with
    | true => none
    | false => some (.int k (shV op k a b))
  | none => none

def isAdd : BinOp → Bool
  | .add => true
  | _ => false
def catArgs (op : BinOp) (x y : SV) : Option (ByteArray × ByteArray) :=
  match isAdd op with
  | true => match x with
    | .pl (.string a) => match y with
      | .pl (.string b) => some (a, b)
      | _ => none
    | _ => none
  | false => none
def catFast (op : BinOp) (x y : SV) : Option Value :=
  match catArgs op x y with
  | some (a, b) => match Nat.ble (a.size + b.size) 9223372036854775807 with
    | true => some (.string (a ++ b))
    | false => none
  | none => none

/-! ### operations on plain values, by the model's own text -/
def pureOf (P : Program) {α : Type} : Sem α → Option α
  | .pure a => some a
  | .program k => pureOf P (k P)
  | _ => none

def plFn (ρ : Operand → SV) (x : Operand) : Value := match (ρ x) with | .pl v => v | _ => undef
def isPl (ρ : Operand → SV) (x : Operand) : Bool := match (ρ x) with | .pl _ => true | _ => false
def allPl (ρ : Operand → SV) : List Operand → Bool
  | [] => true
  | x :: r => match isPl ρ x with | true => allPl ρ r | false => false

def nextVal : Option Next → Option SV
  | some (.value v) => some (.pl v)
  | _ => none
def isSel (op : Op) : Bool := match op with | .select _ _ => true | _ => false
def slowOp (P : Program) (ρ : Operand → SV) (o : Oper) : Option SV :=
  match isSel o.op with
  | true => none
  | false => match allPl ρ o.op.operands.toList with
    | true => nextVal (pureOf P (execOp (plFn ρ) o))
    | false => none

def ptrEq (x y : SV) : Option Bool :=
  match x with
  | .ptr b o => match y with
    | .ptr b' o' => match Nat.beq b b' && Nat.beq o o' with | true => some true | false => none
    | .pl (.pointer none) => some false
    | _ => none
  | .pl (.pointer none) => match y with
    | .ptr _ _ => some false
    | _ => none
  | _ => none
def ptrBin (op : BinOp) (c : Bool) : Option SV :=
  match op with
  | .eql => some (.pl (.bool c))
  | .neq => some (.pl (.bool (!c)))
  | _ => none
/-- may two pointers of this type be held against each other? -/
def ptrT (T : Tab) (t : TypeId) : Bool := match T.ty.get t with
  | some i => match i.d with
    | .ptr e => match T.ty.get e with | some _ => true | none => false
    | _ => false
  | none => false
def plainBin (P : Program) (T : Tab) (ρ : Operand → SV) (o : Oper) (op : BinOp) (t : TypeId) (x y : Operand) : Option SV :=
  match binFast op (ρ x) (ρ y) with
  | some v => some (.pl v)
  | none => match shiftFast op (ρ x) (ρ y) with
    | some v => some (.pl v)
    | none => match catFast op (ρ x) (ρ y) with
      | some v => some (.pl v)
      | none => match ptrEq (ρ x) (ρ y) with
        | some c => match ptrT T t with | true => ptrBin op c | false => none
        | none => slowOp P ρ o

def strAt (s : ByteArray) (i : Int) : Option SV :=
  match i with
  | .ofNat n => match listAt s.data.toList n with
    | some b => some (.pl (.int .u8 b.toNat))
    | none => none
  | _ => none
def isStr (T : Tab) (t : TypeId) : Bool := match T.ty.get t with | some i => (match i.d with | .str => true | _ => false) | none => false
def indexPl (P : Program) (T : Tab) (ρ : Operand → SV) (o : Oper) (t : TypeId) (x y : Operand) : Option SV :=
  match ρ x with
  | .pl (.string s) => match ρ y with
    | .pl (.int _ i) => match isStr T t with
      | true => strAt s i
      | false => none
    | _ => none
  | _ => slowOp P ρ o

/-! ### types -/
def isAggD : TD → Bool
  | .struct _ => true
  | .array _ _ => true
  | _ => false
def isAgg? (T : Tab) (t : TypeId) : Option Bool := match T.ty.get t with | some i => some (isAggD i.d) | none => none
def sizeOf? (T : Tab) (t : TypeId) : Option Nat := match T.ty.get t with | some i => some i.size | none => none
def zeroOf? (T : Tab) (t : TypeId) : Option (List Value) := match T.ty.get t with | some i => some i.zero | none => none
def desc? (T : Tab) (t : TypeId) : Option TD := match T.ty.get t with | some i => some i.d | none => none
def sliceOf? (T : Tab) (t : TypeId) : Option TypeId := match desc? T t with | some (.slice e) => some e | _ => none
def arrayOf? (T : Tab) (t : TypeId) : Option (Nat × TypeId) := match desc? T t with | some (.array n e) => some (n, e) | _ => none
def fieldOf? (T : Tab) (t : TypeId) (f : Nat) : Option (Nat × TypeId) := match desc? T t with | some (.struct fs) => listAt fs f | _ => none

/-! ### reading -/
def cutAt (n off : Nat) (cs : List SV) : Option (List SV) :=
  match Nat.ble (off + n) cs.length with
  | true => some ((cs.drop off).take n)
  | false => none
def partS (T : Tab) (t : TypeId) (cs : List SV) (off : Nat) : Option SV :=
  match isAgg? T t with
  | some true => match sizeOf? T t with
    | some n => (cutAt n off cs).map mkAgg
    | none => none
  | some false => listAt cs off
  | none => none
def cellsOf? (h : Heap) (b : Nat) : Option (List SV) := match h.get b with | some (.cells cs _ _) => some cs | _ => none
def loadS (T : Tab) (h : Heap) (t : TypeId) (b off : Nat) : Option SV :=
  match cellsOf? h b with
  | some cs => partS T t cs off
  | none => none

def idx? (i : Int) (n : Nat) : Option Nat :=
  match i with
  | .ofNat k => match Nat.blt k n with | true => some k | false => none
  | .negSucc _ => none
def le? (i : Int) (n : Nat) : Option Nat :=
  match i with
  | .ofNat k => match Nat.ble k n with | true => some k | false => none
  | .negSucc _ => none
def intOf? : SV → Option Int
  | .pl (.int _ n) => some n
  | _ => none
def bound? (ρ : Operand → SV) (x : Option Operand) (dflt most : Nat) : Option Nat :=
  match x with
  | none => some dflt
  | some y => match intOf? (ρ y) with
    | some i => le? i most
    | none => none

def vPick (c a b : SV) : Option SV :=
  match c with
  | .pl (.bool c) => match c with | true => some a | false => some b
  | _ => none
def vExtract (t : SV) (i : Nat) : Option SV :=
  match t with
  | .tup vs => listAt vs i
  | .pl (.tuple vs) => (listAt vs.toList i).map .pl
  | _ => none
def vLoad (T : Tab) (h : Heap) (t : TypeId) (a : SV) : Option SV :=
  match a with
  | .ptr b off => loadS T h t b off
  | _ => none
def vNilCheck (P : Program) (ρ : Operand → SV) (o : Oper) (x : SV) : Option SV :=
  match x with
  | .ptr b off => some (.ptr b off)
  | .fn f cs => match f with | .func _ => some (.fn f cs) | _ => none
  | .bm f cs => match f with | .func _ => some (.bm f cs) | _ => none
  | .pl _ => slowOp P ρ o
  | _ => none
def vFieldAddr (T : Tab) (s : TypeId) (x : SV) (f : Nat) : Option SV :=
  match x with
  | .ptr b off => match fieldOf? T s f with
    | some fd => match sizeOf? T fd.2 with
      | some (_ + 1) => some (.ptr b (off + fd.1))
      | _ => none
    | none => none
  | _ => none
def vField (P : Program) (T : Tab) (ρ : Operand → SV) (o : Oper) (s : TypeId) (x : SV) (f : Nat) : Option SV :=
  match x with
  | .agg cs => match fieldOf? T s f with
    | some fd => partS T fd.2 cs fd.1
    | none => none
  | .pl _ => slowOp P ρ o
  | _ => none
def elemAt (T : Tab) (e : TypeId) (b off len : Nat) (i : Option Int) : Option SV :=
  match i with
  | some i => match idx? i len with
    | some k => match sizeOf? T e with
      | some sz => some (.ptr b (off + k * sz))
      | none => none
    | none => none
  | none => none
def vIndexAddr (T : Tab) (t : TypeId) (x ix : SV) : Option SV :=
  match x with
  | .sl b off len _ => match sliceOf? T t with
    | some e => elemAt T e b off len (intOf? ix)
    | none => none
  | .ptr b off => match arrayOf? T t with
    | some ne => elemAt T ne.2 b off ne.1 (intOf? ix)
    | none => none
  | _ => none
def vIndexA (T : Tab) (t : TypeId) (cs : List SV) (ix : SV) : Option SV :=
  match arrayOf? T t with
  | some ne => match intOf? ix with
    | some i => match idx? i ne.1 with
      | some k => match sizeOf? T ne.2 with
        | some sz => partS T ne.2 cs (k * sz)
        | none => none
      | none => none
    | none => none
  | none => none
def vIndex (P : Program) (T : Tab) (ρ : Operand → SV) (o : Oper) (t : TypeId) (x y : Operand) : Option SV :=
  match ρ x with
  | .agg cs => vIndexA T t cs (ρ y)
  | _ => indexPl P T ρ o t x y
def vArrayAt (T : Tab) (t : TypeId) (x : SV) : Option SV :=
  match x with
  | .sl b off len _ => match arrayOf? T t with
    | some ne => match Nat.ble ne.1 len && Nat.blt 0 len with
      | true => some (.ptr b off)
      | false => none
    | none => none
  | _ => none
def mostOf (len : Nat) : Ow → Nat
  | .room k => Nat.max len k
  | .cap c => c
  | _ => len
def cutOw (most l : Nat) : Ow := .room (most - l)
def cutSl (T : Tab) (ρ : Operand → SV) (e : TypeId) (b off len : Nat) (most : Nat) (lo hi : Option Operand) : Option SV :=
  match bound? ρ hi len most with
  | some hh => match bound? ρ lo 0 hh with
    | some l => match sizeOf? T e with
      | some sz => some (.sl b (off + l * sz) (hh - l) (cutOw most l))
      | none => none
    | none => none
  | none => none
/-- a string's part -/
def cutStr (ρ : Operand → SV) (s : ByteArray) (lo hi : Option Operand) : Option SV :=
  match bound? ρ hi s.size s.size with
  | some hh => match bound? ρ lo 0 hh with
    | some l => some (.pl (.string (s.extract l hh)))
    | none => none
  | none => none
def vSliceP (P : Program) (T : Tab) (ρ : Operand → SV) (o : Oper) (t : TypeId) (v : Value) (lo hi : Option Operand) : Option SV :=
  match v with
  | .string s => match isStr T t with
    | true => cutStr ρ s lo hi
    | false => none
  | _ => slowOp P ρ o
def vSlice (P : Program) (T : Tab) (ρ : Operand → SV) (o : Oper) (t : TypeId) (x : SV) (lo hi mx : Option Operand) : Option SV :=
  match mx with
  | some _ => none
  | none => match x with
    | .sl b off len own => match sliceOf? T t with
      | some e => cutSl T ρ e b off len (mostOf len own) lo hi
      | none => none
    | .ptr b off => match arrayOf? T t with
      | some ne => cutSl T ρ ne.2 b off ne.1 ne.1 lo hi
      | none => none
    | .pl v => vSliceP P T ρ o t v lo hi
    | _ => none
def vMakeFunc (fn : Fn) (first : List SV) (caps : List SV) : Option SV :=
  match first with
  | [] => some (mkFn fn caps)
  | x :: r => match caps with
    | [] => some (.bm fn (x :: r))
    | _ => none
def vLen (P : Program) (T : Tab) (ρ : Operand → SV) (o : Oper) (ts : List TypeId) (args : List SV) : Option SV :=
  match args with
  | [.sl _ _ len _] => match ts with
    | t :: _ => match sliceOf? T t with
      | some _ => some (.pl (.int .i64 len))
      | none => none
    | [] => none
  | _ => slowOp P ρ o
def toByte : SV → Option UInt8
  | .pl (.int .u8 n) => match n with
    | .ofNat m => match Nat.blt m 256 with
      | true => some (UInt8.ofNat m)
      | false => none
    | _ => none
  | _ => none
def toBytes : List SV → Option (List UInt8)
  | [] => some []
  | x :: r => match toByte x with
    | some b => match toBytes r with
      | some l => some (b :: l)
      | none => none
    | none => none
def isU8 (T : Tab) (t : TypeId) : Bool := match T.ty.get t with | some i => (match i.d with | .int .u8 => true | _ => false) | none => false
def bytesT (T : Tab) (src dst : TypeId) : Bool :=
  match sliceOf? T src with
  | some e => match isU8 T e with | true => isStr T dst | false => false
  | none => false
def strOf (h : Heap) (b off len : Nat) : Option SV :=
  match cellsOf? h b with
  | some cs => match cutAt len off cs with
    | some l => match toBytes l with
      | some bs => some (.pl (.string ⟨bs.toArray⟩))
      | none => none
    | none => none
  | none => none
def strC (cs : List SV) (off len : Nat) : Option SV :=
  match cutAt len off cs with
  | some l => match toBytes l with
    | some bs => some (.pl (.string ⟨bs.toArray⟩))
    | none => none
  | none => none
/-- what is owed for the word that a row's bytes are this text -/
def strP (h : Heap) (b off len : Nat) (v : SV) : Prop := match cellsOf? h b with | some cs => strC cs off len = some v | none => False
/-- a pointer is turned to unsafe.Pointer, or back -/
def unsafeP (T : Tab) (h : Heap) (src dst : TypeId) (b off : Nat) : Option SV :=
  match h.get b with
  | some (.cells cs true (el + 1)) => match desc? T src with
    | some (.ptr t) => match desc? T dst with
      | some .uptr => match sizeOf? T t with
        | some (_ + 1) => match Nat.blt off cs.length with | true => some (.ptr b off) | false => none
        | _ => none
      | _ => none
    | some .uptr => match desc? T dst with
      | some (.ptr u) => match Nat.beq u (el + 1) && Nat.beq off 0 with
        | true => match sizeOf? T u with
          | some (n + 1) => match Nat.ble (n + 1) cs.length with | true => some (.ptr b off) | false => none
          | _ => none
        | false => none
      | _ => none
    | _ => none
  | _ => none
def vConvert (P : Program) (T : Tab) (h : Heap) (ρ : Operand → SV) (o : Oper) (src dst : TypeId) (x : SV) : Option SV :=
  match x with
  | .ptr b off => unsafeP T h src dst b off
  | .sl b off len _ => match bytesT T src dst with
    | true => strOf h b off len
    | false => none
  | .pl _ => slowOp P ρ o
  | _ => none
def vCap (P : Program) (T : Tab) (ρ : Operand → SV) (o : Oper) (ts : List TypeId) (args : List SV) : Option SV :=
  match args with
  | [.sl _ _ _ (.cap c)] => match ts with
    | t :: _ => match sliceOf? T t with
      | some _ => some (.pl (.int .i64 c))
      | none => none
    | [] => none
  | _ => slowOp P ρ o
def vCall (P : Program) (T : Tab) (ρ : Operand → SV) (o : Oper) (c : Call) : Option SV :=
  match c.callee with
  | .builtin .cap => vCap P T ρ o c.argTypes.toList (c.args.toList.map ρ)
  | .builtin .len => vLen P T ρ o c.argTypes.toList (c.args.toList.map ρ)
  | .builtin _ => slowOp P ρ o
  | _ => none
def fillC (cells : List SV) : List (Nat × List SV) → List SV
  | [] => cells
  | (off, vs) :: rest => fillC (cells.take off ++ vs ++ cells.drop (off + vs.length)) rest
def fitC (sz n : Nat) : List (Nat × List SV) → Bool
  | [] => true
  | (off, vs) :: rest => match Nat.beq vs.length sz && Nat.ble (off + vs.length) n with | true => fitC sz n rest | false => false

def partsF (T : Tab) (fs : List (Nat × TypeId)) : List (Nat × SV) → Option (List (Nat × List SV))
  | [] => some []
  | (j, x) :: r => match listAt fs j with
    | some fd => match sizeOf? T fd.2 with
      | some n => match cellsS x with
        | some cs => match Nat.beq cs.length n with
          | true => match partsF T fs r with
            | some l => some ((fd.1, cs) :: l)
            | none => none
          | false => none
        | none => none
      | none => none
    | none => none
def fitF (n : Nat) : List (Nat × List SV) → Bool
  | [] => true
  | (off, vs) :: rest => match Nat.ble (off + vs.length) n with | true => fitF n rest | false => false
/-- is each field's size told? -/
def allSizes (T : Tab) : List (Nat × TypeId) → Bool
  | [] => true
  | x :: r => match sizeOf? T x.2 with | some _ => allSizes T r | none => false
def partsS (sz : Nat) : List (Nat × SV) → Option (List (Nat × List SV))
  | [] => some []
  | (j, x) :: r => match cellsS x with
    | some cs => match partsS sz r with
      | some l => some ((j * sz, cs) :: l)
      | none => none
    | none => none
def vBuild (P : Program) (T : Tab) (ρ : Operand → SV) (o : Oper) (t : TypeId) (ps : List (Nat × SV)) : Option SV :=
  match allPl ρ o.op.operands.toList with
  | true => slowOp P ρ o
  | false => match T.ty.get t with
    | some ti => match ti.d with
      | .struct fs => match allSizes T fs with
        | true => match partsF T fs ps with
          | some l => match fitF ti.zero.length l with
            | true => some (mkAgg (fillC (ti.zero.map .pl) l))
            | false => none
          | none => none
        | false => none
      | .array _ e => match sizeOf? T e with
        | some sz => match partsS sz ps with
          | some l => match fitC sz ti.zero.length l with
            | true => some (mkAgg (fillC (ti.zero.map .pl) l))
            | false => none
          | none => none
        | none => none
      | _ => none
    | none => none
def mapFind (s : ByteArray) : List MapEntry → Option (Option Value)
  | [] => some none
  | e :: r => match e.key with
    | .string k => match s == k with
      | true => some (some e.val)
      | false => mapFind s r
    | _ => none
def zeroV (T : Tab) (t : TypeId) : Option Value :=
  match zeroOf? T t with
  | some l => match Nat.beq l.length 1 with
    | true => none
    | false => some (.agg l.toArray)
  | none => none
def mapGet (z : Value) (ok : Bool) (x : Option (Option Value)) : Option SV :=
  match x with
  | some (some v) => match ok with | true => some (.pl (.tuple #[v, .bool true])) | false => some (.pl v)
  | some none => match ok with | true => some (.pl (.tuple #[z, .bool false])) | false => some (.pl z)
  | none => none
def mapOf? (T : Tab) (t : TypeId) : Option (TypeId × TypeId) := match desc? T t with | some (.map k e) => some (k, e) | _ => none
/-- a map that is looked at: its elements' zero value, its entries -/
def mapAt (T : Tab) (h : Heap) (t : TypeId) (x : SV) : Option (Value × List MapEntry) :=
  match x with
  | .mp b => match mapOf? T t with
    | some (k, e) => match isStr T k with
      | true => match zeroV T e with
        | some z => match h.get b with
          | some (.obj (.map es _)) => some (z, es.toList)
          | _ => none
        | none => none
      | false => none
    | none => none
  | _ => none
def vLookup (T : Tab) (h : Heap) (t : TypeId) (x ix : SV) (ok : Bool) : Option SV :=
  match mapAt T h t x with
  | some (z, es) => match ix with
    | .pl (.string s) => mapGet z ok (mapFind s es)
    | _ => none
  | none => none

/-- operations that give a value and turn nothing -/
def valOp (P : Program) (T : Tab) (h : Heap) (ρ : Operand → SV) (o : Oper) : Option SV :=
  match o.op with
  | .move x => some (ρ x)
  | .assign x => some (ρ x)
  | .pick c a b => vPick (ρ c) (ρ a) (ρ b)
  | .extract t i => vExtract (ρ t) i
  | .load t a => vLoad T h t (ρ a)
  | .binOp op t x y _ => plainBin P T ρ o op t x y
  | .nilCheck x => vNilCheck P ρ o (ρ x)
  | .fieldAddr s x f => vFieldAddr T s (ρ x) f
  | .field s x f => vField P T ρ o s (ρ x) f
  | .indexAddr t x ix => vIndexAddr T t (ρ x) (ρ ix)
  | .index t x ix => vIndex P T ρ o t x ix
  | .slice t x lo hi mx => vSlice P T ρ o t (ρ x) lo hi mx
  | .sliceToArrayPointer t x => vArrayAt T t (ρ x)
  | .makeFunc fn first caps => vMakeFunc fn (first.toList.map ρ) (caps.toList.map ρ)
  | .convert src dst x => vConvert P T h ρ o src dst (ρ x)
  | .call c => vCall P T ρ o c
  | .build t parts => vBuild P T ρ o t (parts.toList.map fun p => (p.1, ρ p.2))
  | .lookup t x ix ok => vLookup T h t (ρ x) (ρ ix) ok
  | _ => slowOp P ρ o

/-- a slice's ends, as numbers -/
def ends (ρ : Operand → SV) (x : Option Operand) : Option (Option Int) :=
  match x with
  | none => some none
  | some y => match intOf? (ρ y) with
    | some i => some (some i)
    | none => none
def boundI (x : Option Int) (dflt most : Nat) : Option Nat :=
  match x with
  | none => some dflt
  | some i => le? i most
def cutStrI (s : ByteArray) (lo hi : Option Int) : Option SV :=
  match boundI hi s.size s.size with
  | some hh => match boundI lo 0 hh with
    | some l => some (.pl (.string (s.extract l hh)))
    | none => none
  | none => none
def cutSlI (sz b off len most : Nat) (lo hi : Option Int) : Option SV :=
  match boundI hi len most with
  | some hh => match boundI lo 0 hh with
    | some l => some (.sl b (off + l * sz) (hh - l) (cutOw most l))
    | none => none
  | none => none
/-- two values are the same: said of their parts -/
def eqV (a b : Value) : Prop :=
  match a with
  | .bool x => (match b with | .bool y => x = y | _ => a = b)
  | .int k x => (match b with | .int k' y => (match sameKind k k' with | true => x = y | false => False) | _ => a = b)
  | .string x => (match b with | .string y => x = y | _ => a = b)
  | _ => a = b
def eqS (a b : SV) : Prop :=
  match a with
  | .pl x => (match b with | .pl y => eqV x y | _ => a = b)
  | _ => a = b
def oweVal (x : Option SV) (v : SV) : Prop := match x with | some a => eqS a v | none => False
/-- what is owed for the word that an operation gives v -/
def owe (P : Program) (T : Tab) (h : Heap) (ρ : Operand → SV) (o : Oper) (v : SV) : Prop :=
  match o.op with
  | .binOp op t x y _ => (match shiftArgs op (ρ x) (ρ y) with
    | some (k, a, b) => (match v with | .pl (.int k' c) => (match sameKind k k' with | true => ltF b 0 = false ∧ shV op k a b = c | false => False) | _ => False)
    | none => (match catArgs op (ρ x) (ρ y) with
      | some (a, b) => (match v with | .pl (.string c) => a.size + b.size ≤ 9223372036854775807 ∧ a ++ b = c | _ => False)
      | none => oweVal (valOp P T h ρ o) v))
  | .index t x y => (match ρ x with
    | .pl (.string s) => (match ρ y with
      | .pl (.int _ i) => (match isStr T t with | true => strAt s i = some v | false => False)
      | _ => False)
    | _ => False)
  | .load t a => (match ρ a with
    | .ptr b off => (match cellsOf? h b with | some cs => partS T t cs off = some v | none => False)
    | _ => False)
  | .indexAddr t x ix => (match ρ x with
    | .sl b off len _ => (match sliceOf? T t with | some e => elemAt T e b off len (intOf? (ρ ix)) = some v | none => False)
    | .ptr b off => (match arrayOf? T t with | some ne => elemAt T ne.2 b off ne.1 (intOf? (ρ ix)) = some v | none => False)
    | _ => False)
  | .slice t x lo hi mx => (match mx with
    | some _ => False
    | none => (match ends ρ lo with
      | some l => (match ends ρ hi with
        | some hh => (match ρ x with
          | .pl (.string s) => (match isStr T t with | true => cutStrI s l hh = some v | false => False)
          | .sl b off len own => (match sliceOf? T t with
            | some e => (match sizeOf? T e with | some sz => cutSlI sz b off len (mostOf len own) l hh = some v | none => False)
            | none => False)
          | _ => vSlice P T ρ o t (ρ x) lo hi mx = some v)
        | none => False)
      | none => False))
  | .lookup t x ix ok => (match mapAt T h t (ρ x) with
    | some (z, es) => (match ρ ix with | .pl (.string s) => mapGet z ok (mapFind s es) = some v | _ => False)
    | none => False)
  | .convert src dst x => (match ρ x with
    | .sl b off len _ => (match bytesT T src dst with | true => strP h b off len v | false => False)
    | _ => oweVal (valOp P T h ρ o) v)
  | _ => oweVal (valOp P T h ρ o) v

/-! ### operations that turn memory -/
def keyHint (r i : Nat) (hs : List Hint) : Option (SV × List Hint) :=
  match hs with
  | .val r' i' v :: rest => match Nat.beq r r' with
    | true => match Nat.beq i i' with
      | true => some (v, rest)
      | false => none
    | false => none
  | _ => none
def chkHint (r i : Nat) (hs : List Hint) : Option (List Hint) :=
  match hs with
  | .chk r' i' :: rest => match Nat.beq r r' with
    | true => match Nat.beq i i' with
      | true => some rest
      | false => none
    | false => none
  | _ => none
def blkHint (r i : Nat) (hs : List Hint) : Option (List SV × List Hint) :=
  match hs with
  | .blk r' i' v :: rest => match Nat.beq r r' with
    | true => match Nat.beq i i' with
      | true => some (v, rest)
      | false => none
    | false => none
  | _ => none
def appHint (r i : Nat) (hs : List Hint) : Option (List SV × List SV × List Hint) :=
  match hs with
  | .app r' i' old new :: rest => match Nat.beq r r' with
    | true => match Nat.beq i i' with
      | true => some (old, new, rest)
      | false => none
    | false => none
  | _ => none
def mkHint (r i : Nat) (hs : List Hint) : Option (Nat × List Hint) :=
  match hs with
  | .mk r' i' n :: rest => match Nat.beq r r' with
    | true => match Nat.beq i i' with
      | true => some (n, rest)
      | false => none
    | false => none
  | _ => none
def check (r i : Nat) (c : Bool) (s : Me) : Option Me :=
  match chkHint r i s.hs with
  | some rest => some (s.need rest (c = true))
  | none => match c with
    | true => some s
    | false => none
/-- a block's new cells, or what a hint says that they are -/
def recell (r i : Nat) (cs : List SV) (s : Me) : List SV × Me :=
  match blkHint r i s.hs with
  | some (cs', rest) => (cs', s.need rest (cs = cs'))
  | none => (cs, s)

/-- what is called: a function; a loop's yield -/
inductive Tgt where
  | fn (f : FuncId)
  | yld (b : Nat)
abbrev CallF := Tgt → List SV → Me → Option (SV × Me)

def eAlloc (T : Tab) (t : TypeId) (s : Me) : Option (SV × Me) :=
  match zeroOf? T t with
  | some z => some (.ptr s.nx 0, s.new (.cells (z.map .pl) true t))
  | none => none
def eBox (t : TypeId) (x : SV) (s : Me) : Option (SV × Me) := match cellsS x with | some cs => some (.ptr s.nx 0, s.new (.cells cs true t)) | none => none
def setCells (cs vs : List SV) (off : Nat) : List SV := cs.take off ++ vs ++ cs.drop (off + vs.length)
def stored (r i b : Nat) (cs : List SV) (el : TypeId) (s : Me) : Option (SV × Me) :=
  match recell r i cs s with
  | (cs', s') => some (undefS, s'.put b (.cells cs' true el))
def eStoreAt (r i : Nat) (cs vs : List SV) (el : TypeId) (b off n : Nat) (s : Me) : Option (SV × Me) :=
  match Nat.beq vs.length n && Nat.blt 0 n with
  | true => match check r i (Nat.ble (off + n) cs.length) s with
    | some s' => stored r i b (setCells cs vs off) el s'
    | none => none
  | false => none
def eStore (T : Tab) (r i : Nat) (t : TypeId) (a x : SV) (s : Me) : Option (SV × Me) :=
  match a with
  | .ptr b off => match s.h.get b with
    | some (.cells cs true (el + 1)) => match sizeOf? T t with
      | some n => match cellsS x with
        | some vs => eStoreAt r i cs vs (el + 1) b off n s
        | none => none
      | none => none
    | _ => none
  | _ => none
def rep {α : Type} (z : List α) : Nat → List α
  | 0 => []
  | n + 1 => z ++ rep z n
def buildAt (T : Tab) (len : Nat) (e : TypeId) (ps : List (Nat × SV)) (s : Me) : Option (SV × Me) :=
  match T.ty.get e with
  | some ti => match partsS ti.size ps with
    | some l => match Nat.ble (len * ti.size) 16777216 && Nat.ble len 16777216 && fitC ti.size (len * ti.size) l with
      | true => some (.sl s.nx 0 len (.own ti.size), s.new (.cells (fillC (rep (ti.zero.map .pl) len) l) true e))
      | false => none
    | none => none
  | none => none
def eBuildSlice (T : Tab) (t : TypeId) (len : Nat) (ps : List (Nat × SV)) (s : Me) : Option (SV × Me) :=
  match sliceOf? T t with
  | some e => buildAt T len e ps s
  | none => none
def makeAt (T : Tab) (r i : Nat) (n : Nat) (e : TypeId) (s : Me) : Option (SV × Me) :=
  match T.ty.get e with
  | some ti => match check r i (Nat.ble (n * ti.bytes) 140737488355328 && Nat.blt n 9223372036854775808) s with
    | some s => match recell r i (rep (ti.zero.map .pl) n) s with
      | (cs, s') => some (.sl s'.nx 0 n (.own ti.size), s'.new (.cells cs true e))
    | none => none
  | none => none
def eMakeSlice (T : Tab) (r i : Nat) (t : TypeId) (l c : Option Int) (s : Me) : Option (SV × Me) :=
  match l with
  | some (.ofNat n) => match c with
    | some (.ofNat m) => match Nat.beq n m with
      | true => match sliceOf? T t with
        | some e => makeAt T r i n e s
        | none => none
      | false => none
    | _ => none
  | _ => none
/-- a row of a length that is told -/
def eMakeSliceH (T : Tab) (r i : Nat) (t : TypeId) (l c : Option Int) (s : Me) : Option (SV × Me) :=
  match mkHint r i s.hs with
  | some (n, rest) => match sliceOf? T t with
    | some e => makeAt T r i n e (s.need rest (l = some (.ofNat n) ∧ c = some (.ofNat n)))
    | none => none
  | none => eMakeSlice T r i t l c s
/-- what is appended to: the cells so far, how many elements, the row -/
def ontoS (h : Heap) (sz : Nat) (e : TypeId) (s : SV) : Option (List SV × Nat × Option Nat) :=
  match s with
  | .pl (.slice none 0 0) => some ([], 0, none)
  | .sl b 0 n (.own sz') => match Nat.beq sz sz' with
    | true => match h.get b with
      | some (.cells cs true (el + 1)) => match Nat.beq (el + 1) e with
        | true => match cutAt (n * sz) 0 cs with
          | some l => some (l, n, some b)
          | none => none
        | false => none
      | _ => none
    | false => none
  | _ => none
def fromS (h : Heap) (sz : Nat) (x : SV) : Option (List SV × Nat) :=
  match x with
  | .sl b off m _ => match cellsOf? h b with
    | some cs => match cutAt (m * sz) off cs with
      | some l => some (l, m)
      | none => none
    | none => none
  | _ => none
def delRow (b : Option Nat) (s : Me) : Me := match b with | some b => s.del b | none => s
def appended (r i sz bytes : Nat) (e : TypeId) (old new : List SV) (n m : Nat) (b : Option Nat) (s : Me) : Option (SV × Me) :=
  match check r i (Nat.ble ((n + m) * bytes) 140737488355328 && Nat.ble (n + m) 9223372036854775807) s with
  | some s => match recell r i (old ++ new) s with
    | (cs, s') => some (.sl s'.nx 0 (n + m) (.own sz), (delRow b s').new (.cells cs true e))
  | none => none
/-- how many elements there are, in which row; how many come -/
def ontoB (s : SV) : Option (Nat × Option Nat) :=
  match s with
  | .pl (.slice none 0 0) => some (0, none)
  | .sl b 0 n (.own _) => some (n, some b)
  | _ => none
def fromB (x : SV) : Option Nat :=
  match x with
  | .sl _ _ m _ => some m
  | _ => none
def ontoP (h : Heap) (sz : Nat) (e : TypeId) (s : SV) (old : List SV) : Prop :=
  match s with
  | .pl (.slice none 0 0) => old = []
  | .sl b 0 n (.own sz') => (match Nat.beq sz sz' with
    | true => (match h.get b with
      | some (.cells cs true (el + 1)) => (match Nat.beq (el + 1) e with | true => cutAt (n * sz) 0 cs = some old | false => False)
      | _ => False)
    | false => False)
  | _ => False
def fromP (h : Heap) (sz : Nat) (x : SV) (new : List SV) : Prop :=
  match x with
  | .sl b off m _ => (match cellsOf? h b with | some cs => cutAt (m * sz) off cs = some new | none => False)
  | _ => False
def eAppend2 (r i sz bytes : Nat) (e : TypeId) (s x : SV) (st : Me) : Option (SV × Me) :=
  match appHint r i st.hs with
  | some (old, new, rest) => match ontoB s with
    | some (n, b) => match fromB x with
      | some m => match Nat.blt 0 sz with
        | true => appended r i sz bytes e old new n m b (st.need rest (ontoP st.h sz e s old ∧ fromP st.h sz x new))
        | false => none
      | none => none
    | none => none
  | none => match ontoS st.h sz e s with
    | some (old, n, b) => match fromS st.h sz x with
      | some (new, m) => match Nat.blt 0 sz with
        | true => appended r i sz bytes e old new n m b st
        | false => none
      | none => none
    | none => none
def eAppend1 (T : Tab) (r i : Nat) (t : TypeId) (s x : SV) (st : Me) : Option (SV × Me) :=
  match sliceOf? T t with
  | some e => match T.ty.get e with
    | some ti => eAppend2 r i ti.size ti.bytes e s x st
    | none => none
  | none => none
/-- a string's bytes as cells -/
def bytesS (l : List UInt8) : List SV := l.map fun b => .pl (.int .u8 b.toNat)
def appendedStr (r i : Nat) (e : TypeId) (old new : List SV) (n m : Nat) (b : Option Nat) (s : Me) : Option (SV × Me) :=
  match check r i (Nat.blt 0 m && Nat.ble (n + m) 140737488355328) s with
  | some s => match recell r i (old ++ new) s with
    | (cs, s') => some (.sl s'.nx 0 (n + m) (.own 1), (delRow b s').new (.cells cs true e))
  | none => none
def eAppendStr (T : Tab) (r i : Nat) (t : TypeId) (s x : SV) (st : Me) : Option (SV × Me) :=
  match sliceOf? T t with
  | some e => match T.ty.get e with
    | some ti => match isU8 T e && Nat.beq ti.size 1 && Nat.beq ti.bytes 1 with
      | true => match ontoS st.h 1 e s with
        | some (old, n, b) => match x with
          | .pl (.string bs) => appendedStr r i e old (bytesS bs.data.toList) n bs.data.toList.length b st
          | _ => none
        | none => none
      | false => none
    | none => none
  | none => none
/-- nothing is appended: the slice stays as it is -/
def isEmptyS (x : SV) : Bool :=
  match x with
  | .pl (.slice none 0 _) => true
  | _ => false
def eAppend0 (T : Tab) (r i : Nat) (t : TypeId) (s x : SV) (st : Me) : Option (SV × Me) :=
  match isEmptyS x with
  | false => eAppend1 T r i t s x st
  | true => match sliceOf? T t with
    | some e => match T.ty.get e with
      | some ti => match s with
        | .sl _ _ _ _ => some (s, st)
        | .pl (.slice none 0 0) => some (s, st)
        | _ => none
      | none => none
    | none => none
def eAppend (T : Tab) (r i : Nat) (ts : List TypeId) (args : List SV) (st : Me) : Option (SV × Me) :=
  match ts with
  | [t, t'] => match Nat.beq t t' with
    | true => match args with
      | [s, x] => eAppend0 T r i t s x st
      | _ => none
    | false => match isStr T t' with
      | true => match args with
        | [s, x] => eAppendStr T r i t s x st
        | _ => none
      | false => none
  | _ => none
def calleeOf (v : SV) (args : List SV) : Option (Tgt × List SV) :=
  match v with
  | .pl (.func (.func g) first caps) => match first.toList with
    | [] => some (.fn g, args ++ caps.toList.map .pl)
    | _ => none
  | .fn (.func g) caps => some (.fn g, args ++ caps)
  | .bm (.func g) first => some (.fn g, first ++ args)
  | .yld b => some (.yld b, args)
  | _ => none
def eCallTo (callF : CallF) (x : Option (Tgt × List SV)) (s : Me) : Option (SV × Me) :=
  match x with
  | some (g, args) => callF g args s
  | none => none
/-- where a slice's elements lie -/
def eSliceData (T : Tab) (ty : TypeId) (args : List SV) (s : Me) : Option (SV × Me) :=
  match args with
  | [.sl b off len (.own _)] => match desc? T ty with
    | some (.ptr _) => match s.h.get b with
      | some (.cells _ true _) => some (.dat b off len, s)
      | _ => none
    | _ => none
  | [.pl (.slice none 0 0)] => some (.pl (.pointer none), s)
  | _ => none
def size1 (T : Tab) (e : TypeId) : Bool := match sizeOf? T e with | some n => Nat.beq n 1 | none => false
def strHint (r i : Nat) (h : Heap) (b off len : Nat) (s : Me) : Option (SV × Me) :=
  match keyHint r i s.hs with
  | some (v, rest) => some (v, s.need rest (strP h b off len v))
  | none => match strOf h b off len with
    | some v => some (v, s)
    | none => none
/-- bytes as a string: they may be written no more -/
def eUnsafeString (T : Tab) (r i : Nat) (ts : List TypeId) (args : List SV) (s : Me) : Option (SV × Me) :=
  match args with
  | [.dat b 0 len, .pl (.int .i64 n)] => match s.h.get b with
    | some (.cells _ true (el + 1)) => match ts with
      | [pt, _] => match desc? T pt with
        | some (.ptr e) => match Nat.beq e (el + 1) && isU8 T e && size1 T e with
          | true => match check r i (eqF n len && Nat.ble len 9223372036854775807) s with
            | some s1 => match strHint r i s.h b 0 len s1 with
              | some (v, s2) => some (v, s2.del b)
              | none => none
            | none => none
          | false => none
        | _ => none
      | _ => none
    | _ => none
  | [.pl (.pointer none), .pl (.int .i64 (.ofNat 0))] => match ts with
    | [_, _] => some (.pl (.string ⟨#[]⟩), s)
    | _ => none
  | _ => none
def eBuiltin (T : Tab) (b : Builtin) (ty : TypeId) (r i : Nat) (ts : List TypeId) (args : List SV) (s : Me) : Option (SV × Me) :=
  match b with
  | .append => eAppend T r i ts args s
  | .unsafeSliceData => eSliceData T ty args s
  | .unsafeString => eUnsafeString T r i ts args s
  | _ => none
/-- a string's bytes, in a row of their own (which may be written no more: its element's type is kept as 0) -/
def eStrBytes (T : Tab) (src dst : TypeId) (x : SV) (s : Me) : Option (SV × Me) :=
  match x with
  | .pl (.string bs) => match isStr T src with
    | true => match sliceOf? T dst with
      | some e => match isU8 T e with
        | true => some (.sl s.nx 0 bs.data.toList.length .no, s.new (.cells (bytesS bs.data.toList) true 0))
        | false => none
      | none => none
    | false => none
  | _ => none
def eMakeMap (rs : Option Operand) (s : Me) : Option (SV × Me) :=
  match rs with
  | none => some (.mp s.nx, s.new (.obj (.map #[] 0)))
  | some _ => none
def eInsert (T : Tab) (t : TypeId) (m k v : SV) (s : Me) : Option (SV × Me) :=
  match m with
  | .mp b => match mapOf? T t with
    | some (kt, _) => match isStr T kt with
      | true => match s.h.get b with
        | some (.obj (.map es clock)) => match k with
          | .pl (.string ks) => match v with
            | .pl x => match mapFind ks es.toList with
              | some none => some (undefS, s.put b (.obj (.map (es.push { key := .string ks, val := x, born := clock }) (clock + 1))))
              | _ => none
            | _ => none
          | _ => none
        | _ => none
      | false => none
    | none => none
  | _ => none
def eCall (T : Tab) (callF : CallF) (ty : TypeId) (r i : Nat) (ρ : Operand → SV) (c : Call) (s : Me) : Option (SV × Me) :=
  match c.callee with
  | .builtin b => eBuiltin T b ty r i c.argTypes.toList (c.args.toList.map ρ) s
  | .value f => eCallTo callF (calleeOf (ρ f) (c.args.toList.map ρ)) s
  | .invoke _ _ => none

def effOp (T : Tab) (callF : CallF) (r i : Nat) (ρ : Operand → SV) (o : Oper) (s : Me) : Option (SV × Me) :=
  match o.op with
  | .alloc t => eAlloc T t s
  | .box t x => eBox t (ρ x) s
  | .store t a x => eStore T r i t (ρ a) (ρ x) s
  | .buildSlice t len parts => eBuildSlice T t len (parts.toList.map fun p => (p.1, ρ p.2)) s
  | .makeSlice t l c => eMakeSliceH T r i t (intOf? (ρ l)) (intOf? (ρ c)) s
  | .call c => eCall T callF o.type r i ρ c s
  | .makeMap _ rs => eMakeMap rs s
  | .insert t m k v => eInsert T t (ρ m) (ρ k) (ρ v) s
  | .convert src dst x => eStrBytes T src dst (ρ x) s
  | _ => none

def isEffCall (c : Call) : Bool :=
  match c.callee with
  | .builtin b => match b with | .append => true | .unsafeSliceData => true | .unsafeString => true | _ => false
  | _ => true
def isEff (op : Op) : Bool :=
  match op with
  | .alloc _ => true
  | .box _ _ => true
  | .store _ _ _ => true
  | .buildSlice _ _ _ => true
  | .makeSlice _ _ _ => true
  | .call c => isEffCall c
  | .makeMap _ _ => true
  | .insert _ _ _ _ => true
  | .convert src dst _ => Nat.beq src 9 && Nat.beq dst 22
  | _ => false

/-! ### one operation, a region -/
def putMe (f : Fra) (d : Option Tmp) (x : Option (SV × Me)) : Option St :=
  match x with
  | some (v, m) => match f.put d v with
    | some f' => some ⟨f', m⟩
    | none => none
  | none => none
def evVal (P : Program) (T : Tab) (r i : Nat) (o : Oper) (f : Fra) (m : Me) : Option (SV × Me) :=
  match keyHint r i m.hs with
  | some (v, rest) => some (v, m.need rest (owe P T m.h (evO f) o v))
  | none => match valOp P T m.h (evO f) o with
    | some v => some (v, m)
    | none => none
def evOp (P : Program) (T : Tab) (callF : CallF) (r i : Nat) (o : Oper) (f : Fra) (m : Me) : Option (SV × Me) :=
  match isEff o.op with
  | true => effOp T callF r i (evO f) o m
  | false => evVal P T r i o f m

def boolS (want : Bool) (v : SV) : Option Bool :=
  match v with
  | .pl (.bool b) => match b with
    | true => some want
    | false => match want with | true => some false | false => some true
  | .pl (.tuple _) => some false
  | _ => none
def wantedS (ops : List Oper) (g : Option (Nat × Bool)) (f : Fra) : Option Bool :=
  match g with
  | none => some true
  | some (j, want) => match listAt ops j with
    | some o => match o.dst with
      | some d => match Nat.blt d f.nt with
        | true => boolS want (f.get d)
        | false => none
      | none => none
    | none => none
def evGuarded (P : Program) (T : Tab) (callF : CallF) (r : Nat) (ops : List Oper) (i : Nat) (o : Oper) (f : Fra) (m : Me) : Option (SV × Me) :=
  match wantedS ops o.guard f with
  | some true => evOp P T callF r i o f m
  | some false => some (undefS, m)
  | none => none

def evOps (P : Program) (T : Tab) (callF : CallF) (r : Nat) (ops : List Oper) : List Oper → Nat → St → Option St
  | [], _, s => some s
  | o :: rest, i, s => match s with
    | ⟨f, m⟩ => match putMe f o.dst (evGuarded P T callF r ops i o f m) with
      | some s' => evOps P T callF r ops rest (i + 1) s'
      | none => none

/-! ### a region whose order is open -/
def bindsAny (g : Ground) : Bool := match g with | .textOnly _ => false | .gcOnly _ => false | _ => true
def befEdges (acc : List Nat) : List Edge → Nat → Nat
  | [], s => s
  | e :: r, s => match bindsAny e.ground with
    | true => befEdges acc r (Nat.lor (Nat.lor s (Nat.pow 2 e.on)) (match listAt acc e.on with | some x => x | none => 0))
    | false => befEdges acc r s
def befs : List Oper → List Nat → List Nat
  | [], acc => acc
  | o :: r, acc => befs r (acc ++ [befEdges acc o.after.toList 0])
def bit (n i : Nat) : Bool := Nat.beq (Nat.mod (Nat.shiftRight n i) 2) 1
/-- which block an operation reads, which one it turns -/
def readOf (ρ : Operand → SV) (o : Oper) : Option Nat :=
  match o.op with
  | .load _ a => match ρ a with | .ptr b _ => some b | _ => none
  | .convert _ _ x => match ρ x with | .sl b _ _ _ => some b | .ptr b _ => some b | _ => none
  | .lookup _ x _ _ => match ρ x with | .mp b => some b | _ => none
  | _ => none
def turnOf (ρ : Operand → SV) (o : Oper) : Option Nat :=
  match o.op with
  | .store _ a _ => match ρ a with | .ptr b _ => some b | _ => none
  | .call c => match c.callee with
    | .builtin _ => match c.args.toList with
      | s :: _ => match ρ s with | .sl b _ _ _ => some b | .dat b _ _ => some b | _ => none
      | [] => none
    | _ => none
  | .insert _ m _ _ => match ρ m with | .mp b => some b | _ => none
  | _ => none
def isCall (o : Oper) : Bool := match o.op with | .call c => (match c.callee with | .builtin _ => false | _ => true) | _ => false
def clash (a b : Option Nat) : Bool := match a with | some x => (match b with | some y => Nat.beq x y | none => false) | none => false
/-- beside each operation before i that isn't bound to come first: nothing that it turns is read by i, nor the other way -/
def dynOk (bef : Nat) (rd tn : Option Nat) : List (Option Nat × Option Nat) → Nat → Bool
  | [], _ => true
  | (rd', tn') :: rest, j => match bit bef j with
    | true => dynOk bef rd tn rest (j + 1)
    | false => match clash rd tn' || clash rd' tn with
      | true => false
      | false => dynOk bef rd tn rest (j + 1)
/-- what is read was there -/
def rdLt (rd : Option Nat) (n : Nat) : Bool := match rd with | some b => Nat.blt b n | none => true
/-- a call turns no block that was there -/
def callQuiet (o : Oper) (m : Me) (x : Option (SV × Me)) : Option (SV × Me) :=
  match isCall o with
  | false => x
  | true => match x with
    | some (v, m') => match Nat.ble m.nx m'.wm with
      | true => some (v, m'.setWm m.wm)
      | false => none
    | none => none
def fresh (o : Oper) (m : Me) : Me := match isCall o with | true => m.setWm m.nx | false => m
/-- an operation that makes a block out of nothing: in a region whose order is open its block is laid ahead -/
def isConstO : Operand → Bool
  | .const _ => true
  | _ => false
def isFl (o : Oper) : Bool :=
  match o.guard with
  | none => match o.dst with
    | some _ => match o.op with
      | .alloc _ => true
      | .makeSlice _ l c => isConstO l && isConstO c
      | _ => false
    | none => false
  | some _ => false
/-- a block that was laid ahead: by which operation, what that gives, its number -/
structure Flt where
  i : Nat
  v : SV
  b : Nat
def layFl (T : Tab) (r i : Nat) (f : Fra) (o : Oper) (m : Me) : Option (SV × Me) :=
  match o.op with
  | .alloc t => eAlloc T t m
  | .makeSlice t l c => eMakeSlice T r i t (intOf? (evO f l)) (intOf? (evO f c)) m
  | _ => none
def floats (T : Tab) (r : Nat) (f : Fra) : List Oper → Nat → Me → Option (List Flt × Me)
  | [], _, m => some ([], m)
  | o :: rest, i, m => match isFl o with
    | false => floats T r f rest (i + 1) m
    | true => match layFl T r i f o m with
      | some (v, m') => match floats T r f rest (i + 1) m' with
        | some (l, m'') => some (⟨i, v, m.nx⟩ :: l, m'')
        | none => none
      | none => none
def fltAt (i : Nat) : List Flt → Option Flt
  | [] => none
  | x :: r => match Nat.beq x.i i with | true => some x | false => fltAt i r
/-- the blocks laid ahead by what isn't bound to come first -/
def unbound (bef : Nat) : List Flt → List Nat
  | [] => []
  | x :: r => match bit bef x.i with | true => unbound bef r | false => x.b :: unbound bef r
def Me.hide (s : Me) (b : Nat) : Me := match s with | ⟨h, nx, wm, hs, vc⟩ => ⟨h.del b, nx, wm, hs, vc⟩
def Me.show (s : Me) (b : Nat) (o : Option AObj) : Me := match o with
  | some o => (match s with | ⟨h, nx, wm, hs, vc⟩ => ⟨h.put b o, nx, wm, hs, vc⟩)
  | none => s
def hideAll : List Nat → Me → Me
  | [], m => m
  | b :: r, m => hideAll r (m.hide b)
def showAll (h : Heap) : List Nat → Me → Me
  | [], m => m
  | b :: r, m => showAll h r (m.show b (h.get b))
def showX (h : Heap) (u : List Nat) (x : Option (SV × Me)) : Option (SV × Me) :=
  match x with
  | some (v, m) => some (v, showAll h u m)
  | none => none
def evD (P : Program) (T : Tab) (callF : CallF) (r : Nat) (ops : List Oper) (fl : List Flt) (b i : Nat) (o : Oper) (f : Fra) (m : Me) : Option (SV × Me) :=
  match fltAt i fl with
  | some x => some (x.v, m)
  | none => match isEff o.op with
    | false => evGuarded P T callF r ops i o f m
    | true => match unbound b fl with
      | [] => callQuiet o m (evGuarded P T callF r ops i o f (fresh o m))
      | u => showX m.h u (callQuiet o (hideAll u m) (evGuarded P T callF r ops i o f (fresh o (hideAll u m))))
def evOpsD1 (P : Program) (T : Tab) (callF : CallF) (r : Nat) (ops : List Oper) (fl : List Flt) : List Oper → List Nat → Nat → List (Option Nat × Option Nat) → St → Option St
  | [], _, _, _, s => some s
  | o :: rest, bs, i, acc, s => match s with
    | ⟨f, m⟩ => match bs with
      | [] => none
      | b :: bs => match dynOk b (readOf (evO f) o) (turnOf (evO f) o) acc 0 && rdLt (readOf (evO f) o) m.nx with
        | false => none
        | true => match putMe f o.dst (evD P T callF r ops fl b i o f m) with
          | some s' => evOpsD1 P T callF r ops fl rest bs (i + 1) (acc ++ [(readOf (evO f) o, turnOf (evO f) o)]) s'
          | none => none
def evOpsD (P : Program) (T : Tab) (callF : CallF) (r : Nat) (ops : List Oper) (bs : List Nat) (s : St) : Option St :=
  match s with
  | ⟨f, m⟩ => match floats T r f ops 0 m with
    | some (fl, m1) => evOpsD1 P T callF r ops fl ops bs 0 [] ⟨f, m1⟩
    | none => none

/-! ### results -/
def resOne (T : Tab) (s : St) (x : ResultVar) : Option SV :=
  match s with
  | ⟨f, m⟩ => match x with
    | .tmp t => some (f.get t)
    | .cell a t => vLoad T m.h t (f.get a)
def resAll (T : Tab) (s : St) : List ResultVar → Option (List SV)
  | [] => some []
  | x :: r => match resOne T s x with
    | some v => match resAll T s r with
      | some l => some (v :: l)
      | none => none
    | none => none
def resS (T : Tab) (fn : Func) (s : St) : Option SV :=
  match resAll T s fn.results.toList with
  | some l => match l with
    | [v] => some v
    | l => some (mkTup l)
  | none => none

/-! ### code -/
abbrev Out := Option (Exit × St)
abbrev Rec := Code → St → Out
/-- functions whose answers are known: value and new blocks -/
structure Intr where
  ans : FuncId → List SV → Heap → Nat → Option (SV × List AObj)
  /-- what is owed for the word that a loop is left so -/
  own : Code → Nat → Option (Option Nat) → List (Nat × SV) → List (Nat × AObj) → Nat → Exit → List (Nat × SV) → List (Nat × Option AObj) → Nat → Prop
  /-- what is owed for the word that a call comes to this -/
  ownC : FuncId → List SV → List (Nat × AObj) → Nat → SV → List (Nat × Option AObj) → Nat → Prop

def addAll : List AObj → Me → Me
  | [], s => s
  | o :: r, s => addAll r (s.new o)
def upsM : List (Nat × Option AObj) → Me → Me
  | [], s => s
  | x :: r, s => match x.2 with
    | some o => upsM r (s.put x.1 o)
    | none => upsM r (s.del x.1)
def wrObjs : List AObj → Bool
  | [] => true
  | o :: r => match o.wrB with | true => wrObjs r | false => false
def wrAll : List (Nat × Option AObj) → Bool
  | [] => true
  | x :: r => match x.2 with
    | some o => match o.wrB with | true => wrAll r | false => false
    | none => wrAll r
def Me.setNx (s : Me) (x : Nat) : Me := match s with | ⟨h, _, wm, hs, vc⟩ => ⟨h, x, wm, hs, vc⟩
def pairs {α : Type} : List (Nat × α) → Tr α
  | [] => .e
  | x :: r => (pairs r).put x.1 x.2
def slotsAt (f : Fra) : List Nat → List (Nat × SV)
  | [] => []
  | i :: r => (i, f.get i) :: slotsAt f r
def blocksAt (h : Heap) : List Nat → List (Nat × AObj)
  | [] => []
  | b :: r => match h.get b with
    | some o => (b, o) :: blocksAt h r
    | none => blocksAt h r
/-- the marks of a frame that leaves: no call waits behind them -/
def closeMarks : List Nat → Me → Option Me
  | [], s => some s
  | d :: r, s => match s.h.get d with
    | some (.obj (.deferred (some []))) => closeMarks r (s.put d (.obj (.deferred none)))
    | _ => none
def retS1 (T : Tab) (fn : Func) (s : St) : Option (SV × Me) :=
  match s with
  | ⟨f, m⟩ => match closeMarks f.dm m with
    | some m1 => match resS T fn ⟨f, m1⟩ with | some v => some (v, m1) | none => none
    | none => none
def retS (T : Tab) (fn : Func) (x : Out) : Option (SV × Me) :=
  match x with
  | some (e, s) => match e with
    | .normal => retS1 T fn s
    | .ret => retS1 T fn s
    | _ => none
  | none => none
def enterS (T : Tab) (rec : Rec) (fn : Func) (args : List SV) (m : Me) : Option (SV × Me) :=
  match fn.body with
  | some body => match Nat.ble args.length fn.ntmps with
    | true => retS T fn (rec body ⟨⟨Tr.ofList args 0 .e, undefS, fn.ntmps, [], some none⟩, m⟩)
    | false => none
  | none => none
/-- yield's arguments in the parameters -/
def setAll : List Tmp → List SV → Fra → Option Fra
  | [], [], f => some f
  | t :: ts, v :: vs, f => match f.put (some t) v with
    | some f' => setAll ts vs f'
    | none => none
  | _, _, _ => none
def jumpOf (e : Exit) : Option (Option Code) :=
  match e with
  | .normal => some none
  | .ret => some (some .ret)
  | .exit id => some (some (.exit id))
  | _ => none
def stJ (j : Option Code) : LoopState := match j with | none => .ready | some _ => .done
def roundEnd (b : Nat) (x : Out) : Option (SV × Me) :=
  match x with
  | some (e, s) => match s with
    | ⟨fr, m⟩ => match fr.dm with
      | [] => match jumpOf e with
        | some j => match m.h.get b with
          | some (.lrec .busy none f ps asg body d) => some (.pl (.bool j.isNone), m.put b (.lrec (stJ j) j f ps asg body d))
          | _ => none
        | none => none
      | _ => none
  | none => none
def roundBody (rec : Rec) (b : Nat) (bd : Code) (x : Out) : Option (SV × Me) :=
  match x with
  | some (e, s) => match e with
    | .normal => match s with
      | ⟨fr, m⟩ => match m.h.get b with
        | some (.lrec .ready none f ps asg body d) => roundEnd b (rec bd ⟨fr, m.put b (.lrec .busy none f ps asg body d)⟩)
        | _ => none
    | _ => none
  | none => none
def roundS (rec : Rec) (b : Nat) (args : List SV) (m : Me) : Option (SV × Me) :=
  match m.h.get b with
  | some (.lrec .ready none f ps asg body _) => match setAll ps args f with
    | some ⟨sl, df, nt, _, _⟩ => roundBody rec b body (rec asg ⟨⟨sl, df, nt, [], some (some b)⟩, m⟩)
    | none => none
  | _ => none
structure Told where
  bs : List Nat
  sv : SV
  ups : List (Nat × Option AObj)
  nx : Nat
def clHint (f : FuncId) (hs : List Hint) : Option (Told × List Hint) :=
  match hs with
  | .cl f' bs sv ups nx :: rest => match Nat.beq f f' with
    | true => some (⟨bs, sv, ups, nx⟩, rest)
    | false => none
  | _ => none
def callTold (I : Intr) (f : FuncId) (args : List SV) (m : Me) (c : Told) (rest : List Hint) : Option (SV × Me) :=
  match Nat.ble m.nx c.nx && wrAll c.ups with
  | true => some (c.sv, ((upsM c.ups m).setNx c.nx).need rest (I.ownC f args (blocksAt m.h c.bs) m.nx c.sv c.ups c.nx))
  | false => none
/-- a call's own hints, if it has some -/
def goHint (f : FuncId) (hs : List Hint) : Option (List Hint) :=
  match hs with
  | .go f' :: rest => match Nat.beq f f' with
    | true => some rest
    | false => none
  | _ => none
def unstash (hs : List Hint) (x : Option (SV × Me)) : Option (SV × Me) :=
  match x with
  | some (v, m) => some (v, m.setHs hs)
  | none => none
/-- a call that is run: its caller's hints are laid aside, but where it is said to go on with them -/
def enterH (T : Tab) (rec : Rec) (f : FuncId) (fn : Func) (args : List SV) (m : Me) : Option (SV × Me) :=
  match m.hs with
  | [] => enterS T rec fn args m
  | hs => match goHint f hs with
    | some rest => enterS T rec fn args (m.setHs rest)
    | none => unstash hs (enterS T rec fn args (m.setHs []))
def callFn (T : Tab) (I : Intr) (rec : Rec) (f : FuncId) (args : List SV) (m : Me) : Option (SV × Me) :=
  match clHint f m.hs with
  | some (c, rest) => callTold I f args m c rest
  | none => match I.ans f args m.h m.nx with
    | some (v, new) => match wrObjs new with | true => some (v, addAll new m) | false => none
    | none => match T.fn.get f with
      | some fn => enterH T rec f fn args m
      | none => none
def callF (T : Tab) (I : Intr) (rec : Rec) : CallF := fun t args m =>
  match t with
  | .fn f => callFn T I rec f args m
  | .yld b => roundS rec b args m

def seqS (x : Out) (next : St → Out) : Out :=
  match x with
  | some (e, s) => match e with
    | .normal => next s
    | _ => some (e, s)
  | none => none
def blockS (id : Nat) (x : Out) : Out :=
  match x with
  | some (e, s) => match e with
    | .exit id' => match Nat.beq id' id with
      | true => some (.normal, s)
      | false => some (e, s)
    | _ => some (e, s)
  | none => none
def scopeS (x : Out) : Out :=
  match x with
  | some (e, s) => match e with
    | .goto _ => none
    | _ => some (e, s)
  | none => none
def condS (v : SV) (a b : Unit → Out) : Out :=
  match v with
  | .pl (.bool c) => match c with | true => a () | false => b ()
  | _ => none
def regionS (x : Option St) : Out := match x with | some s => some (.normal, s) | none => none
def evRegion (P : Program) (T : Tab) (cf : CallF) (r : Nat) (ops : List Oper) (draw : Bool) (s : St) : Option St :=
  match draw with
  | false => evOps P T cf r ops ops 0 s
  | true => evOpsD P T cf r ops (befs ops []) s

/-! ### a range over a function -/
/-- the loop's record is laid: its number, memory behind, the marks behind -/
def enterL (f : Fra) (ps : List Tmp) (asg body : Code) (m : Me) : Option (Nat × Me × List Nat) :=
  match f.rd with
  | some none => some (m.nx + 2, (m.new (.obj (.deferred (some [])))).new (.lrec .ready none f ps asg body m.nx), m.nx :: f.dm)
  | some (some l) => match m.h.get l with
    | some (.lrec _ _ _ _ _ _ d) => some (m.nx, m.new (.lrec .ready none f ps asg body d), f.dm)
    | _ => none
  | none => none
def loopEnd (f : Fra) (dm : List Nat) (l : Nat) (x : Option (SV × Me)) : Out :=
  match x with
  | some (_, m) => match m.h.get l with
    | some (.lrec st pe _ _ _ _ _) => match st with
      | .busy => none
      | _ => match f with
        | ⟨sl, df, nt, _, rd⟩ => match pe with
          | none => some (.normal, ⟨⟨sl, df, nt, dm, rd⟩, m.del l⟩)
          | some .ret => some (.ret, ⟨⟨sl, df, nt, dm, rd⟩, m.del l⟩)
          | some (.exit id) => some (.exit id, ⟨⟨sl, df, nt, dm, rd⟩, m.del l⟩)
          | some _ => none
    | _ => none
  | none => none
def hasBody (T : Tab) (f : FuncId) : Bool := match T.fn.get f with | some fn => (match fn.body with | some _ => true | none => false) | none => false
def rangeS (T : Tab) (cf : CallF) (x : Operand) (ps : List Tmp) (asg body : Code) (s : St) : Out :=
  match s with
  | ⟨f, m⟩ => match enterL f ps asg body m with
    | some (l, m1, dm) => match calleeOf (evO f x) [.yld l] with
      | some (t, args) => match t with
        | .fn g => match hasBody T g with | true => loopEnd f dm l (cf (.fn g) args m1) | false => none
        | .yld _ => none
      | none => none
    | none => none

def firstReg : Code → Nat
  | .region r _ _ => r
  | .seq a b => firstReg a
  | .cond _ a b => firstReg a
  | .block _ c => firstReg c
  | .loop c => firstReg c
  | .scope c => firstReg c
  | _ => 0
structure Left where
  ss : List Nat
  bs : List Nat
  e : Exit
  ss' : List (Nat × SV)
  ups : List (Nat × Option AObj)
  nx : Nat
def lpHint (c : Code) (hs : List Hint) : Option (Left × List Hint) :=
  match hs with
  | .lp r ss bs e ss' ups nx :: rest => match Nat.beq r (firstReg c) with
    | true => some (⟨ss, bs, e, ss', ups, nx⟩, rest)
    | false => none
  | _ => none
/-- a frame of which these slots alone are told -/
def fraOf (f : Fra) (ss : List (Nat × SV)) : Fra := match f with | ⟨_, _, nt, dm, rd⟩ => ⟨pairs ss, .any, nt, dm, rd⟩
def loopTold (I : Intr) (c : Code) (s : St) (l : Left) (rest : List Hint) : Out :=
  match s with
  | ⟨f, m⟩ => match Nat.ble m.nx l.nx && wrAll l.ups with
    | true => some (l.e, ⟨fraOf f l.ss', ((upsM l.ups m).setNx l.nx).need rest (I.own (.loop c) f.nt f.rd (slotsAt f l.ss) (blocksAt m.h l.bs) m.nx l.e l.ss' l.ups l.nx)⟩)
    | false => none
def loopS (I : Intr) (rec : Rec) (c : Code) (s : St) : Out :=
  match lpHint c s.m.hs with
  | some (l, rest) => loopTold I c s l rest
  | none => seqS (rec c s) (rec (.loop c))
def evStep (P : Program) (T : Tab) (I : Intr) (rec : Rec) : Rec := fun c s =>
  match c with
  | .skip => some (.normal, s)
  | .label _ => some (.normal, s)
  | .exit id => some (.exit id, s)
  | .ret => some (.ret, s)
  | .seq a b => seqS (rec a s) (rec b)
  | .cond x a b => condS (evO s.f x) (fun _ => rec a s) (fun _ => rec b s)
  | .block id c => blockS id (rec c s)
  | .scope c => scopeS (rec c s)
  | .loop c => loopS I rec c s
  | .region r ops d => regionS (evRegion P T (callF T I rec) r ops.toList d s)
  | .rangeFunc x ps asg body => rangeS T (callF T I rec) x ps.toList asg body s
  | _ => none

def ev (P : Program) (T : Tab) (I : Intr) (n : Nat) : Rec :=
  Nat.rec (fun _ _ => none) (fun _ ih => evStep P T I ih) n

def callS (P : Program) (T : Tab) (I : Intr) (n : Nat) (f : FuncId) (args : List SV) (m : Me) : Option (SV × Me) :=
  callF T I (ev P T I n) (.fn f) args m

end
end Go.Sx
