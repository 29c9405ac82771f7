/- The evaluator of the loaded code over plain data (definitions alone; nothing is claimed here). -/
import Derived.WalkKit
import Derived.Orders
import Derived.Deep.LoopGhost
import Derived.Below
import Derived.Deep.Draws
namespace Go.Proofs.YtljggmbgbnmapaaGreatV
open Go

/-- A cell of data: a bool, a whole number, the bytes of a string, a slice as the list of its elements (each the list of its cells). -/
inductive DC where
  | b (x : Bool)
  | i (n : Int)
  | s (l : List UInt8)
  | sl (l : List (List DC))

instance : Inhabited DC := ⟨.b false⟩

def DC.bb : DC → Bool
  | .b x => x
  | _ => false
def DC.ii : DC → Int
  | .i n => n
  | _ => 0
def DC.ss : DC → List UInt8
  | .s l => l
  | _ => []
def DC.ll : DC → List (List DC)
  | .sl l => l
  | _ => []
def d0 : DC := .b false

/-- The type of a cell. -/
inductive CT where
  | b
  | i (k : IntKind)
  | s
  | sl (e : Nat)

def CT.same : CT → CT → Bool
  | .b, .b => true
  | .i k, .i k' => decide (k = k')
  | .s, .s => true
  | .sl e, .sl e' => Nat.beq e e'
  | _, _ => false

def CT.sameL : List CT → List CT → Bool
  | [], [] => true
  | x :: l, y :: m => CT.same x y && CT.sameL l m
  | _, _ => false

/-- A cell of the evaluator's state. -/
inductive S where
  | undef
  | nil
  | bool (b : Bool)
  | int (k : IntKind) (n : Int)
  | str (l : List UInt8)
  | sl (e : Nat) (l : List (List DC))
  | own (id : Nat)
  | ptr (id off : Nat)
  | fn (f : Nat) (caps : List Nat)

/-- What a slot holds. -/
inductive C where
  | one (s : S)
  | agg (l : List S)
  | tup (l : List (Bool × List S))
  | elS (e : Nat) (x : List DC) (off : Nat)
  | elO (e id ix off : Nat)

/-- An object: a variable in memory; a row of the call's own; a row that is no longer written. -/
inductive Obj' where
  | var (t : Nat) (cs : List S)
  | row (e : Nat) (l : List (List DC))
  | fz (e : Nat) (l : List (List DC))

inductive HS where
  | free
  | dead
  | live (o : Obj')

structure St where
  tm : List C
  H : List HS

inductive TK where
  | bool
  | int (k : IntKind)
  | str
  | slice (e : Nat)
  | struct
  | other

/-- What is known of a type: its cells, its bytes, its fields (place, cells, a struct?). -/
structure TI where
  kd : TK
  cts : List CT
  bytes : Nat
  flds : List (Nat × Nat × Bool)
  eq : Bool

/-- The kinds of places in a normal form. -/
inductive K1 where
  | u
  | b
  | i (k : IntKind)
  | s
  | sl (e : Nat)
  | own (e id : Nat)
  | ptr (id off : Nat)
  | fn (f : Nat) (caps : List Nat)
  | nil

inductive KC where
  | one (k : K1)
  | agg (l : List K1)

/-- A normal form: of the slots, and of the objects (variables: the type, the cells). -/
inductive KO where
  | u
  | var (t : Nat) (l : List K1)

structure Hint where
  tm : List KC
  ob : List KO

inductive AC where
  | skip
  | region (id : Nat) (ops : Array Oper) (draw : Bool) (ids : List Nat) (h : Option Hint)
  | seq (a b : AC)
  | cond (c : Operand) (x y : AC) (h : Option Hint)
  | block (id : Nat) (body : AC) (h : Hint)
  | loop (body : AC) (h : Hint)
  | exit (id : Nat)
  | ret

def AC.code : AC → Code
  | .skip => .skip
  | .region id ops draw _ _ => .region id ops draw
  | .seq a b => .seq a.code b.code
  | .cond c x y _ => .cond c x.code y.code
  | .block id body _ => .block id body.code
  | .loop body _ => .loop body.code
  | .exit id => .exit id
  | .ret => .ret

/-- How a parameter comes, how a result goes. -/
inductive PK where
  | ct (c : CT)
  | ag (cs : List CT)
  | mv (e : Nat)
  | ptr
  | fn

inductive RK where
  | ct (c : CT)
  | new (e : Nat)

/-- Is a parameter no more than data? -/
def PK.plain : PK → Bool
  | .ct _ => true
  | .ag _ => true
  | _ => false

structure FI where
  ntmps : Nat
  nobj : Nat
  pk : List PK
  rk : List (Bool × List RK)
  res : List ResultVar
  body : Hint → AC
  prim : Option (Hint → List DC → Option (List DC))

structure Cfg where
  ty : Nat → Option TI
  fn : Nat → Option FI

inductive Out where
  | norm (v : List DC)
  | ex (id : Nat) (v : List DC)
  | ret (v : List DC)
  | fail

def Out.andThen (o : Out) (K : List DC → Out) : Out :=
  match o with
  | .norm v => K v
  | .ex id v => .ex id v
  | .ret v => .ret v
  | .fail => .fail

def Out.andThenB (o : Out) (id : Nat) (K : List DC → Out) : Out :=
  match o with
  | .norm v => K v
  | .ex id' v => if id' = id then K v else .ex id' v
  | .ret v => .ret v
  | .fail => .fail

def getH (H : List HS) (id : Nat) : HS := H.getD id .dead
def setH (H : List HS) (id : Nat) (x : HS) : List HS := H.set id x

/-- A slice's contents. -/
def sliceOf (H : List HS) : S → Option (Nat × List (List DC))
  | .sl e l => some (e, l)
  | .own id =>
    match getH H id with
    | .live (.row e l) => some (e, l)
    | .live (.fz e l) => some (e, l)
    | _ => none
  | _ => none

/-- As data of a cell of a type; a row of the call's own is frozen by it. -/
def toDC (H : List HS) : CT → S → Option (DC × List HS)
  | .b, .bool x => some (.b x, H)
  | .i k, .int k' n => if k' = k then some (.i n, H) else none
  | .s, .str l => some (.s l, H)
  | .sl e, .sl e' l => if e' = e then some (.sl l, H) else none
  | .sl _, .nil => some (.sl [], H)
  | .sl e, .own id =>
    match getH H id with
    | .live (.row e2 l) => if e2 = e then some (.sl l, setH H id (.live (.fz e2 l))) else none
    | .live (.fz e2 l) => if e2 = e then some (.sl l, H) else none
    | _ => none
  | _, _ => none

def toDCs (H : List HS) : List CT → List S → Option (List DC × List HS)
  | [], [] => some ([], H)
  | t :: ts, s :: ss =>
    match toDC H t s with
    | some (d, H1) =>
      match toDCs H1 ts ss with
      | some (ds, H2) => some (d :: ds, H2)
      | none => none
    | none => none
  | _, _ => none

def ofDC : CT → DC → S
  | .b, d => .bool d.bb
  | .i k, d => .int k d.ii
  | .s, d => .str d.ss
  | .sl e, d => .sl e d.ll

/-- The cells of x from a place on. -/
def ofDCs : List CT → List DC → Nat → List S
  | [], _, _ => []
  | t :: ts, x, j => ofDC t (x.getD j d0) :: ofDCs ts x (j + 1)

def zeroS : CT → S
  | .b => .bool false
  | .i k => .int k 0
  | .s => .str []
  | .sl _ => .nil

def zeroD : CT → DC
  | .b => .b false
  | .i _ => .i 0
  | .s => .s []
  | .sl _ => .sl []

def S.isDef : S → Bool
  | .undef => false
  | _ => true

def C.cells : C → Option (List S)
  | .one s => if s.isDef then some [s] else none
  | .agg l => if l.all S.isDef then some l else none
  | _ => none

/-- A value of a type out of its cells. -/
def mkC (isAgg : Bool) (l : List S) : C :=
  if isAgg then .agg l else .one (l.headD .undef)

def ofConst : Value → C
  | .bool b => .one (.bool b)
  | .int k n => .one (.int k n)
  | .string s => .one (.str s.data.toList)
  | .slice none 0 0 => .one .nil
  | _ => .one .undef

def opd (tm : List C) : Operand → C
  | .tmp t => tm.getD t (.one .undef)
  | .const v => ofConst v
  | .func f => .one (.fn f [])
  | .global _ => .one .undef

def opds (tm : List C) : List Operand → List C
  | [] => []
  | x :: l => opd tm x :: opds tm l

def intBin (op : BinOp) (k : IntKind) (a b : Int) : Option S :=
  match op with
  | .add => some (.int k (k.wrap (a + b)))
  | .sub => some (.int k (k.wrap (a - b)))
  | .mul => some (.int k (k.wrap (a * b)))
  | .and => some (.int k (k.wrap (BitVec.ofInt k.bits a &&& BitVec.ofInt k.bits b).toNat))
  | .or => some (.int k (k.wrap (BitVec.ofInt k.bits a ||| BitVec.ofInt k.bits b).toNat))
  | .xor => some (.int k (k.wrap (BitVec.ofInt k.bits a ^^^ BitVec.ofInt k.bits b).toNat))
  | .eql => some (.bool (a == b))
  | .neq => some (.bool (a != b))
  | .lss => some (.bool (decide (a < b)))
  | .leq => some (.bool (decide (a ≤ b)))
  | .gtr => some (.bool (decide (a > b)))
  | .geq => some (.bool (decide (a ≥ b)))
  | _ => none

def strBin (op : BinOp) (a b : List UInt8) : Option S :=
  match op with
  | .eql => some (.bool (a == b))
  | .neq => some (.bool (!(a == b)))
  | .lss => some (.bool (Op.bytesLess a b))
  | .leq => some (.bool (Op.bytesLess a b || a == b))
  | .gtr => some (.bool (!(Op.bytesLess a b || a == b)))
  | .geq => some (.bool (!(Op.bytesLess a b)))
  | _ => none

/-- '==' of two records of numbers, bools and strings. -/
def eqCells : List S → List S → Option Bool
  | [], [] => some true
  | .int k a :: l, .int k' b :: m => if k' = k then (eqCells l m).map fun r => (a == b) && r else none
  | .str a :: l, .str b :: m => (eqCells l m).map fun r => (a == b) && r
  | .bool a :: l, .bool b :: m => (eqCells l m).map fun r => (a == b) && r
  | _, _ => none

/-- Is the cell of the type's kind? -/
def fitsL : List CT → List S → Bool
  | [], [] => true
  | .b :: cs, .bool _ :: l => fitsL cs l
  | .i k :: cs, .int k' _ :: l => decide (k' = k) && fitsL cs l
  | .s :: cs, .str _ :: l => fitsL cs l
  | _, _ => false

def pickS (c : Bool) : S → S → Option S
  | .bool a, .bool b => some (.bool (if c then a else b))
  | .int k a, .int k' b => if k' = k then some (.int k (if c then a else b)) else none
  | .str a, .str b => some (.str (if c then a else b))
  | _, _ => none

/-- How an operation bears on the objects: not at all; it reads; it does more; it makes a new variable; it reads one variable; it writes one variable. -/
inductive Cls where
  | t
  | r
  | w
  | n
  | rv (id : Nat)
  | st (id : Nat)

def LIM : Nat := 1073741824

/-- Values of parts, as rows of data. -/
def rowsOf (H : List HS) (ts : List CT) : Nat → List (Nat × C) → Option (List (List DC) × List HS)
  | _, [] => some ([], H)
  | j, (i, c) :: l =>
    if i = j then
      match c.cells with
      | some ss =>
        match toDCs H ts ss with
        | some (x, H1) =>
          match rowsOf H1 ts (j + 1) l with
          | some (xs, H2) => some (x :: xs, H2)
          | none => none
        | none => none
      | none => none
    else none

def setRun (l : List S) (off : Nat) (xs : List S) : List S := l.take off ++ (xs ++ l.drop (off + xs.length))
def setRunD (l : List DC) (off : Nat) (xs : List DC) : List DC := l.take off ++ (xs ++ l.drop (off + xs.length))

def buildC (flds : List (Nat × Nat × Bool)) (z : List S) : List (Nat × C) → Option (List S)
  | [] => some z
  | (j, c) :: l =>
    match flds[j]?, c.cells with
    | some (off, n, _), some ss =>
      if ss.length = n then buildC flds (setRun z off ss) l else none
    | _, _ => none

def bytesRow (l : List UInt8) : List (List DC) := l.map fun c => [DC.i c.toNat]
def rowBytes (l : List (List DC)) : List UInt8 := l.map fun x => UInt8.ofNat (x.getD 0 d0).ii.toNat

def RK.flat (ty : Nat → Option TI) : RK → Bool
  | .ct (.sl _) => false
  | .ct _ => true
  | .new e => match ty e with
    | some ti => ti.cts.all fun c => match c with | .sl _ => false | _ => true
    | none => false

end Go.Proofs.YtljggmbgbnmapaaGreatV
