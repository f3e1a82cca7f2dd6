/- The evaluator: what a Go function comes to, over what is known of its values. No memory, no tape. -/
import Derived.Test.YtdheehhnpjkdbaaDoorFwB
set_option linter.unusedVariables false
set_option linter.unusedSimpArgs false
namespace Go.PR
open Go

inductive TK where
  | int (k : IntKind) | bool | str | slice (elem : TypeId) | struct (fields : List (Nat × TypeId)) | array (n : Nat) (elem : TypeId) | map (key elem : TypeId) | other

structure TI where
  kind : TK
  size : Nat
  bytes : Nat
  zero : List D

def TI.agg (i : TI) : Bool := match i.kind with | .struct _ | .array _ _ => true | _ => false

structure Hint where
  temps : List Nat
  rows : List Nat
  out : List Nat

/-- What comes of a call: the result, what became of the rows that were handed over, the rows that come back besides. -/
structure Ret where
  res : D
  passed : List (Option Row)
  out : List Row

structure Ctx where
  tt : TypeId → Option TI
  glob : Nat → Option D
  ft : FuncId → Option Func
  byref : FuncId → Bool
  keep : FuncId → Nat → Option Hint
  prim : FuncId → List D → List Row → Option Ret

/-! ### contents -/
def Cont.len : Cont → Nat
  | .ints _ xs => xs.length
  | .bools xs => xs.length
  | .ints2 _ xss => xss.length
  | .gen els => els.length
  | .var cells => cells.length

def subL {α : Type} (xs : List α) (off n : Nat) : List α := if off = 0 ∧ n = xs.length then xs else (xs.drop off).take n

/-- What n elements from off on hold, as a slice that nobody writes. -/
def Cont.imm (off n : Nat) : Cont → Option D
  | .ints k xs => some (.immI k (subL xs off n))
  | .bools xs => some (.immB (subL xs off n))
  | .ints2 k xss => some (.imm2 k (subL xss off n))
  | .gen els => some (.immG (subL els off n))
  | .var _ => none

/-- The content of a slice that nobody writes. -/
def D.cont : D → Option Cont
  | .immI k xs => some (.ints k xs)
  | .immB xs => some (.bools xs)
  | .imm2 k xss => some (.ints2 k xss)
  | .immG els => some (.gen els)
  | _ => none

def Cont.get : Cont → Nat → Option D
  | .ints k xs, i => if i < xs.length then some (.int k (xs.getD i 0)) else none
  | .bools xs, i => if i < xs.length then some (.bool (xs.getD i false)) else none
  | .ints2 k xss, i => if i < xss.length then some (.immI k (xss.getD i [])) else none
  | .gen els, i => els[i]?
  | .var cells, i => cells[i]?

def Cont.isVar : Cont → Bool
  | .var _ => true
  | _ => false

/-- Is this a value of one cell that needs no row? -/
def D.plain : D → Bool
  | .bool _ | .int _ _ | .str _ | .immI _ _ | .immB _ | .imm2 _ _ | .immG _ | .nil _ | .pim _ => true
  | _ => false

def Cont.set : Cont → Nat → D → Option Cont
  | .ints k xs, i, .int k' n => if k = k' ∧ i < xs.length then some (.ints k (xs.set i n)) else none
  | .bools xs, i, .bool b => if i < xs.length then some (.bools (xs.set i b)) else none
  | .ints2 k xss, i, .immI k' xs => if k = k' ∧ i < xss.length then some (.ints2 k (xss.set i xs)) else none
  | .ints2 k xss, i, .nil _ => if i < xss.length then some (.ints2 k (xss.set i [])) else none
  | .gen els, i, d => if d.plain ∧ i < els.length then some (.gen (els.set i d)) else none
  | _, _, _ => none

/-- A row of one element. -/
def Cont.one (e : TK) (e2 : Option TK) (d : D) : Option Cont :=
  match e, e2, d with
  | .int k, _, .int k' n => if k = k' then some (.ints k [n]) else none
  | .bool, _, .bool b => some (.bools [b])
  | .slice _, some (.int k), .immI k' xs => if k = k' then some (.ints2 k [xs]) else none
  | .slice _, some (.int k), .nil _ => some (.ints2 k [[]])
  | .int _, _, _ | .bool, _, _ | .slice _, some (.int _), _ => none
  | _, _, d => if d.plain then some (.gen [d]) else none

def Cont.empty (e : TK) (e2 : Option TK) : Cont :=
  match e, e2 with
  | .int k, _ => .ints k []
  | .bool, _ => .bools []
  | .slice _, some (.int k) => .ints2 k []
  | _, _ => .gen []

def Cont.zeros (e : TK) (e2 : Option TK) (n : Nat) : Option Cont :=
  match e, e2 with
  | .int k, _ => some (.ints k (List.replicate n 0))
  | .bool, _ => some (.bools (List.replicate n false))
  | .slice _, some (.int k) => some (.ints2 k (List.replicate n []))
  | _, _ => none

def Cont.app : Cont → Cont → Option Cont
  | .ints k xs, .ints k' ys => if k = k' then some (.ints k (xs ++ ys)) else none
  | .bools xs, .bools ys => some (.bools (xs ++ ys))
  | .ints2 k xs, .ints2 k' ys => if k = k' then some (.ints2 k (xs ++ ys)) else none
  | .gen xs, .gen ys => some (.gen (xs ++ ys))
  | _, _ => none

def Cont.sub (off n : Nat) : Cont → Option Cont
  | .ints k xs => some (.ints k (subL xs off n))
  | .bools xs => some (.bools (subL xs off n))
  | .ints2 k xss => some (.ints2 k (subL xss off n))
  | .gen els => some (.gen (subL els off n))
  | .var _ => none

/-! ### references -/
mutual
def D.refs : D → List Nat
  | .ptr r _ => [r]
  | .pel r _ => [r]
  | .rsl r _ _ => [r]
  | .fn _ cap => D.refsL cap
  | .agg cs => D.refsL cs
  | .tup vs => D.refsL vs
  | _ => []
def D.refsL : List D → List Nat
  | [] => []
  | d :: ds => d.refs ++ D.refsL ds
end

mutual
def D.noImm : D → Bool
  | .immI _ _ | .immB _ | .imm2 _ _ | .immG _ | .pim _ => false
  | .fn _ cap => D.noImmL cap
  | .agg cs => D.noImmL cs
  | .tup vs => D.noImmL vs
  | _ => true
def D.noImmL : List D → Bool
  | [] => true
  | d :: ds => d.noImm && D.noImmL ds
end

def Cont.refs : Cont → List Nat
  | .var cells => D.refsL cells
  | _ => []

def Cont.noImm : Cont → Bool
  | .ints _ _ | .bools _ => true
  | .var cells => D.noImmL cells
  | _ => false

def mapO {α β : Type} (f : α → Option β) : List α → Option (List β)
  | [] => some []
  | a :: as => match f a, mapO f as with
    | some b, some bs => some (b :: bs)
    | _, _ => none

/-- The value as one that leads to no row of ours; Z: the rows that may be looked into. -/
def reify (rows : Nat → Option Row) (Z : List Nat) : Nat → D → Option D
  | 0, _ => none
  | n + 1, d => match d with
    | .any => some .any | .und => some .und | .nil k => some (.nil k) | .bool b => some (.bool b) | .int k x => some (.int k x) | .str s => some (.str s)
    | .immI k xs => some (.immI k xs) | .immB xs => some (.immB xs) | .imm2 k xss => some (.imm2 k xss) | .immG els => some (.immG els) | .pim cells => some (.pim cells)
    | .fn f cap => (mapO (reify rows Z n) cap).map (.fn f)
    | .agg cs => (mapO (reify rows Z n) cs).map .agg
    | .tup vs => (mapO (reify rows Z n) vs).map .tup
    | .rsl r off m => if Z.contains r then match rows r with
      | some row => if off + m ≤ row.c.len then row.c.imm off m else none
      | none => none else none
    | .ptr r off => if Z.contains r then match rows r with
      | some ⟨_, .var cells⟩ => (mapO (reify rows Z n) (cells.drop off)).map .pim
      | _ => none else none
    | .pel r j => if Z.contains r then match rows r with
      | some row => if row.c.isVar then none else (row.c.get j).map fun d => .pim [d]
      | none => none else none

def dedup (l : List Nat) : List Nat := l.foldl (fun acc x => if acc.contains x then acc else acc ++ [x]) []

def refsOf (rows : Nat → Option Row) (ids : List Nat) : List Nat := ids ++ (ids.map fun i => match rows i with | some r => r.c.refs | none => []).flatten

/-- The rows that values lead to, one after the other. -/
def reach (rows : Nat → Option Row) (ds : List D) : List Nat := dedup (refsOf rows (dedup (refsOf rows (dedup (D.refsL ds)))))

/-! ### the state -/
def St.freeze (Z : List Nat) (st : St) : St := { st with rows := fun i => match st.rows i with | some r => if Z.contains i then some ⟨false, r.c⟩ else some r | none => none }

def mvF (a b : Nat) : Nat → Option Nat := fun r => if r = a then some b else if r = b then none else some r

/-- Row a becomes row b. -/
def St.move (a b : Nat) (st : St) : St := ⟨D.renL (mvF a b) st.env, fun i => if i = b then (st.rows a).map (·.ren (mvF a b)) else if i = a then none else (st.rows i).map (·.ren (mvF a b))⟩

/-- A row's content is not known any more. -/
def St.forget (r : Nat) (st : St) : St := { st with rows := fun i => if i = r then none else st.rows i }

def St.setRow (id : Nat) (row : Row) (st : St) : St := { st with rows := fun i => if i = id then some row else st.rows i }

def St.setD (dst : Option Tmp) (d : D) (st : St) : St := match dst with | some t => { st with env := st.env.set t d } | none => st

def nid (t : Nat) : Nat := 1000 + t % 10000
def xid (t i : Nat) : Nat := 1000 + t % 10000 + 10000 * (i % 40)
def home (id off : Nat) : Nat := 1000000 + 1000 * id + off

def cst : Value → D
  | .bool b => .bool b
  | .int k n => .int k n
  | .string s => .str s
  | .slice none 0 0 => .nil .unk
  | _ => .any

def ev (X : Ctx) (st : St) : Operand → D
  | .tmp t => st.env.getD t .any
  | .const v => cst v
  | .global g => (X.glob g).getD .any
  | .func f => .fn f []

/-! ### operations that turn nothing but their own temporary -/
def binI (op : BinOp) (k : IntKind) (x y : Int) : Option D :=
  match op with
  | .add => some (.int k (k.wrap (x + y)))
  | .sub => some (.int k (k.wrap (x - y)))
  | .mul => some (.int k (k.wrap (x * y)))
  | .quo => if y = 0 then none else some (.int k (k.wrap (x.tdiv y)))
  | .rem => if y = 0 then none else some (.int k (x.tmod y))
  | .and => some (.int k (k.wrap (BitVec.ofInt k.bits x &&& BitVec.ofInt k.bits y).toNat))
  | .or => some (.int k (k.wrap (BitVec.ofInt k.bits x ||| BitVec.ofInt k.bits y).toNat))
  | .xor => some (.int k (k.wrap (BitVec.ofInt k.bits x ^^^ BitVec.ofInt k.bits y).toNat))
  | .andNot => some (.int k (k.wrap (BitVec.ofInt k.bits x &&& ~~~ BitVec.ofInt k.bits y).toNat))
  | .eql => some (.bool (x == y))
  | .neq => some (.bool (x != y))
  | .lss => some (.bool (x < y))
  | .leq => some (.bool (x ≤ y))
  | .gtr => some (.bool (x > y))
  | .geq => some (.bool (x ≥ y))
  | _ => none

def shiftI (op : BinOp) (k : IntKind) (x y : Int) : Option D :=
  if y < 0 then none else
  match op with
  | .shl => some (.int k (k.wrap (x * 2 ^ min y.toNat k.bits)))
  | .shr => some (.int k (x.fdiv (2 ^ min y.toNat k.bits)))
  | _ => none

def binD (op : BinOp) (t : Option TI) (x y : D) : Option D :=
  match x, y with
  | .int k a, .int k' b => match op with
    | .shl | .shr => shiftI op k a b
    | op => if k = k' then binI op k a b else none
  | .bool a, .bool b => match op, t with
    | .eql, some ⟨.bool, _, _, _⟩ => some (.bool (a == b))
    | .neq, some ⟨.bool, _, _, _⟩ => some (.bool (!(a == b)))
    | _, _ => none
  | _, _ => none

def unD (op : UnOp) : D → Option D
  | .bool b => match op with | .not => some (.bool !b) | _ => none
  | .int k n => match op with
    | .neg => some (.int k (k.wrap (0 - n)))
    | .xor => some (.int k (k.wrap (BitVec.ofInt k.bits (if k.signed then -1 else k.max) ^^^ BitVec.ofInt k.bits n).toNat))
    | _ => none
  | _ => none

def loadL (i : TI) (cells : List D) : Option D :=
  if i.agg then (if i.size ≤ cells.length then some (.agg (cells.take i.size)) else none) else if i.size = 1 then cells[0]? else none

def loadD (i : TI) (rows : Nat → Option Row) : D → Option D
  | .pim cells => loadL i cells
  | .ptr r off => match rows r with
    | some ⟨_, .var cells⟩ => loadL i (cells.drop off)
    | _ => none
  | .pel r j => match rows r with
    | some row => if i.agg ∨ row.c.isVar then none else if i.size = 1 then row.c.get j else none
    | none => none
  | _ => none

def fieldAddrD (X : Ctx) (i : TI) (f : Nat) (d : D) : Option D :=
  match i.kind with
  | .struct fs => match fs[f]? with
    | some (off, ft) => match X.tt ft with
      | some fi => if fi.size = 0 then none else match d with
        | .ptr r o => some (.ptr r (o + off))
        | .pim cells => some (.pim (cells.drop off))
        | _ => none
      | none => none
    | none => none
  | _ => none

def fieldD (X : Ctx) (i : TI) (f : Nat) (d : D) : Option D :=
  match i.kind, d with
  | .struct fs, .agg cells => match fs[f]? with
    | some (off, ft) => match X.tt ft with
      | some fi => if fi.agg then (if off + fi.size ≤ cells.length then some (.agg ((cells.drop off).take fi.size)) else none) else cells[off]?
      | none => none
    | none => none
  | _, _ => none

def indexAddrD (X : Ctx) (i : TI) (x ix : D) : Option D :=
  match ix with
  | .int _ j => match i.kind, x with
    | .slice e, .rsl r off n => match X.tt e with
      | some ei => if ei.size = 1 ∧ 0 ≤ j ∧ j < n then some (.pel r (off + j.toNat)) else none
      | none => none
    | .slice e, x => match X.tt e, x.cont with
      | some ei, some c => if ei.size = 1 ∧ 0 ≤ j ∧ j < c.len then (c.get j.toNat).map fun d => .pim [d] else none
      | _, _ => none
    | .array n e, .pim cells => match X.tt e with
      | some ei => if 0 ≤ j ∧ j < n then some (.pim (cells.drop (j.toNat * ei.size))) else none
      | none => none
    | .array n e, .ptr r off => match X.tt e with
      | some ei => if 0 ≤ j ∧ j < n then some (.ptr r (off + j.toNat * ei.size)) else none
      | none => none
    | _, _ => none
  | _ => none

def bnd : Option D → Nat → Option Nat
  | none, d => some d
  | some (.int _ j), _ => if 0 ≤ j then some j.toNat else none
  | _, _ => none

/-- Is there surely room up to here? -/
def roomy (rows : Nat → Option Row) (r upto : Nat) : Bool :=
  match rows r with
  | some row => !row.c.isVar && decide (upto ≤ row.c.len)
  | none => false

def sliceD (X : Ctx) (i : TI) (rows : Nat → Option Row) (x : D) (lo hi mx : Option D) : Option D :=
  match i.kind with
  | .slice e => match X.tt e with
    | some ei => if ei.size = 1 then
      match mx with
      | some m => match x, lo, hi, m with     -- only a slice without room
        | .nil k, none, some (.int _ 0), .int _ 0 => some (.nil k)
        | .immI k _, none, some (.int _ 0), .int _ 0 => some (.nil (.ints k))
        | .immB _, none, some (.int _ 0), .int _ 0 => some (.nil .bools)
        | .imm2 k _, none, some (.int _ 0), .int _ 0 => some (.nil (.ints2 k))
        | .immG _, none, some (.int _ 0), .int _ 0 => some (.nil .gen)
        | .rsl _ _ n, lo, some (.int _ h), .int _ m => match bnd lo 0 with
          | some l => if (l : Int) ≤ h ∧ h ≤ m ∧ m ≤ n then some .any else none
          | none => none
        | _, _, _, _ => none
      | none => match x with
        | .rsl r off n => match bnd lo 0, bnd hi n with
          | some l, some h => if l ≤ h ∧ (h ≤ n ∨ roomy rows r (off + h) = true) then some (.rsl r (off + l) (h - l)) else none
          | _, _ => none
        | .nil k => match bnd lo 0, bnd hi 0 with
          | some 0, some 0 => some (.nil k)
          | _, _ => none
        | x => match x.cont with
          | some c => match bnd lo 0, bnd hi c.len with
            | some l, some h => if l ≤ h ∧ h ≤ c.len then c.imm l (h - l) else none
            | _, _ => none
          | none => none
      else none
    | none => none
  | _ => none

def lenD : D → Option D
  | .rsl _ _ n => some (.int .i64 n)
  | .nil _ => some (.int .i64 0)
  | d => d.cont.map fun c => .int .i64 c.len

def D.cells : D → List D
  | .agg cs => cs
  | d => [d]

def setCells : List D → Nat → List D → List D
  | cs, _, [] => cs
  | cs, off, v :: vs => setCells (cs.set off v) (off + 1) vs

def D.known : D → Bool
  | .any | .und => false
  | _ => true

/-- Surely a value of one cell. -/
def D.isCell : D → Bool
  | .any | .und | .agg _ | .tup _ => false
  | _ => true

/-- A struct out of parts. -/
def buildD (X : Ctx) (fs : List (Nat × TypeId)) : List D → List (Nat × D) → Option (List D)
  | cs, [] => some cs
  | cs, (f, d) :: rest => match fs[f]? with
    | some (off, ft) => match X.tt ft with
      | some fi => if d.known ∧ d.cells.length = fi.size ∧ off + fi.size ≤ cs.length then buildD X fs (setCells cs off d.cells) rest else none
      | none => none
    | none => none

def pickD (b : Bool) (x y : D) : D :=
  match x, y with
  | .bool p, .bool q => .bool (if b then p else q)
  | x, y => if b then x else y

def D.some? : D → Bool
  | .rsl _ _ n => decide (0 < n)
  | d => match d.cont with
    | some c => decide (0 < c.len)
    | none => false

/-- A slice that has elements is not nil. -/
def nilD (op : BinOp) (x : D) : Option D :=
  if x.some? then match op with
    | .eql => some (.bool false)
    | .neq => some (.bool true)
    | _ => none
  else none

def binC (X : Ctx) (st : St) (op : BinOp) (t : TypeId) (x y : Operand) : Option D :=
  match y with
  | .const (.slice none 0 0) => match X.tt t with
    | some ⟨.slice _, _, _, _⟩ => nilD op (ev X st x)
    | _ => none
  | _ => binD op (X.tt t) (ev X st x) (ev X st y)

def capD : D → Option D
  | .nil _ => some (.int .i64 0)
  | _ => none

/-- Operations that read at most. -/
def quiet (X : Ctx) (st : St) (o : Oper) : Option D :=
  match o.op with
  | .move x => some (ev X st x)
  | .pick c a b => match ev X st c with
    | .bool t => some (pickD t (ev X st a) (ev X st b))
    | _ => none
  | .load t a => match X.tt t with
    | some i => loadD i st.rows (ev X st a)
    | none => none
  | .nilCheck x => match ev X st x with
    | .ptr r o => some (.ptr r o)
    | .pim cs => some (.pim cs)
    | _ => none
  | .binOp op t x y _ => binC X st op t x y
  | .unOp op _ x => unD op (ev X st x)
  | .convert s d x => match X.tt s, X.tt d, ev X st x with
    | some si, some di, .int k n => match si.kind, di.kind with
      | .int _, .int k' => some (.int k' (k'.wrap n))
      | _, _ => none
    | _, _, _ => none
  | .makeFunc (.func f) first captured => if first.size = 0 then some (.fn f (captured.toList.map (ev X st))) else none
  | .slice t x lo hi mx => match X.tt t with
    | some i => sliceD X i st.rows (ev X st x) (lo.map (ev X st)) (hi.map (ev X st)) (mx.map (ev X st))
    | none => none
  | .fieldAddr t x f => match X.tt t with
    | some i => fieldAddrD X i f (ev X st x)
    | none => none
  | .field t x f => match X.tt t with
    | some i => fieldD X i f (ev X st x)
    | none => none
  | .indexAddr t x ix => match X.tt t with
    | some i => indexAddrD X i (ev X st x) (ev X st ix)
    | none => none
  | .build t parts => match X.tt t with
    | some ⟨.struct fs, _, _, zero⟩ => if fs.all fun p => (X.tt p.2).isSome then (buildD X fs zero (parts.toList.map fun p => (p.1, ev X st p.2))).map .agg else none
    | _ => none
  | .extract t ix => match ev X st t with
    | .tup vs => vs[ix]?
    | _ => none
  | .call { callee := .builtin .len, args, argTypes } => match args.toList, argTypes.toList with
    | [x], [t] => match X.tt t with
      | some ⟨.slice _, _, _, _⟩ => lenD (ev X st x)
      | _ => none
    | _, _ => none
  | .call { callee := .builtin .cap, args, argTypes } => match args.toList, argTypes.toList with
    | [x], [t] => match X.tt t with
      | some ⟨.slice _, _, _, _⟩ => capD (ev X st x)
      | _ => none
    | _, _ => none
  | _ => none

def isQuiet : Op → Bool
  | .move _ | .pick .. | .load .. | .nilCheck _ | .binOp .. | .unOp .. | .convert .. | .makeFunc .. | .slice .. | .fieldAddr .. | .field .. | .indexAddr .. | .extract .. | .build .. => true
  | .call { callee := .builtin .len, .. } => true
  | _ => false

end Go.PR
