/- The evaluator, the rest: operations that make or turn rows, calls, code, functions. -/
import Derived.Test.YtdheehhnpjkdbaaDoorFwE2
set_option linter.unusedVariables false
set_option linter.unusedSimpArgs false
namespace Go.PR
open Go

def emptyC : NK → Option Cont
  | .ints k => some (.ints k [])
  | .bools => some (.bools [])
  | .ints2 k => some (.ints2 k [])
  | .gen => some (.gen [])
  | .unk => none

def nkElem (X : Ctx) (e : TypeId) : NK :=
  match X.tt e with
  | some ⟨.int k, _, _, _⟩ => .ints k
  | some ⟨.bool, _, _, _⟩ => .bools
  | some ⟨.slice e2, _, _, _⟩ => match X.tt e2 with
    | some ⟨.int k, _, _, _⟩ => .ints2 k
    | _ => .gen
  | _ => .gen

def nkOf (X : Ctx) (t : TypeId) : NK :=
  match X.tt t with
  | some ⟨.slice e, _, _, _⟩ => nkElem X e
  | _ => .unk

def unbound (r : Nat) : Bool := decide (1000 ≤ r) && decide (r < 500000)

/-- What a place holds gets the place's own row. -/
def bindAt (k : NK) (i hm : Nat) (st : St) : St :=
  match st.env.getD i .any with
  | .rsl r 0 n => if unbound r && (st.rows r).isSome && r != hm then st.move r hm else st
  | .nil k' => match emptyC (if k' = .unk then k else k') with
    | some c => { (st.newRow hm ⟨true, c⟩) with env := (st.newRow hm ⟨true, c⟩).env.set i (.rsl hm 0 0) }
    | none => st
  | _ => st

def bindAll (hm : Nat → Nat) : (n i j : Nat) → St → St
  | 0, _, _, st => st
  | n + 1, i, j, st => bindAll hm n (i + 1) (j + 1) (bindAt .unk i (hm j) st)

def St.push (ds : List D) (st : St) : St := { st with env := st.env ++ ds }
def St.cut (n : Nat) (st : St) : St := { st with env := st.env.take n }

/-- A variable in memory, its cells' slices bound to it. -/
def boxRow (id : Nat) (cells : List D) (st : St) : St :=
  let s := bindAll (home id) cells.length st.env.length 0 (st.push cells)
  (s.cut st.env.length).newRow id ⟨true, .var (D.renL (killF id) (s.env.drop st.env.length))⟩

/-- Cells written into a variable in memory. -/
def storeVarRow (r off : Nat) (cells : List D) (st : St) : Option St :=
  let s := bindAll (fun j => home r (off + j)) cells.length st.env.length 0 (st.push (cells ++ [.ptr r off]))
  match s.env.getD (st.env.length + cells.length) .any with
  | .ptr r' off' => match s.rows r' with
    | some ⟨true, .var old⟩ => if off' + cells.length ≤ old.length then some ((s.cut st.env.length).setRow r' ⟨true, .var (setCells old off' ((s.env.drop st.env.length).take cells.length))⟩) else none
    | _ => none
  | _ => none

def allRows : Nat := 6

/-- The value as one that nobody writes any more, its rows frozen. -/
def settle (st : St) (d : D) : Option (D × St) :=
  let Z := reach st.rows [d]
  (reify st.rows Z allRows d).map fun d' => (d', if Z.isEmpty then st else st.freeze Z)

def storeD (X : Ctx) (st : St) (i : TI) (addr val : D) : Option St :=
  match addr with
  | .ptr r off => if val.known && val.cells.length == i.size && val.cells.all D.isCell then storeVarRow r off val.cells st else none
  | .pel r j => if i.size = 1 ∧ i.agg = false then
      match settle st val with
      | some (d, s) => match s.rows r with
        | some ⟨true, c⟩ => if c.isVar then none else (c.set j d).map fun c' => s.setRow r ⟨true, c'⟩
        | _ => none
      | none => none
    else none
  | _ => none

def parts01 : Nat → List (Nat × D) → Option (List D)
  | _, [] => some []
  | k, (i, d) :: rest => if i = k then (parts01 (k + 1) rest).map (d :: ·) else none

/-- The parts of a slice's literal, settled one after the other. -/
def buildC (X : Ctx) (nk : NK) : List D → Cont → St → Option (Cont × St)
  | [], c, st => some (c, st)
  | d :: rest, c, st => match settle st d with
    | some (d', s) => match c, d' with
      | .ints k xs, .int k' n => if k = k' then buildC X nk rest (.ints k (xs ++ [n])) s else none
      | .bools xs, .bool b => buildC X nk rest (.bools (xs ++ [b])) s
      | .ints2 k xss, .immI k' xs => if k = k' then buildC X nk rest (.ints2 k (xss ++ [xs])) s else none
      | .ints2 k xss, .nil _ => buildC X nk rest (.ints2 k (xss ++ [[]])) s
      | .gen els, d' => if d'.plain then buildC X nk rest (.gen (els ++ [d'])) s else none
      | _, _ => none
    | none => none

def elemOf (X : Ctx) (t : TypeId) : Option (TypeId × TI) :=
  match X.tt t with
  | some ⟨.slice e, _, _, _⟩ => (X.tt e).map fun i => (e, i)
  | _ => none

def zeroC : NK → List D → Nat → Option Cont
  | .ints k, [.int k' 0], n => if k = k' then some (.ints k (List.replicate n 0)) else none
  | .bools, [.bool false], n => some (.bools (List.replicate n false))
  | .ints2 k, [.nil _], n => some (.ints2 k (List.replicate n []))
  | _, _, _ => none

def lim : Nat := 1099511627776

/-- The second argument of an append. -/
def srcC (rows : Nat → Option Row) : D → Option (Option Cont)
  | .nil _ => some none
  | .rsl r off n => match rows r with
    | some row => if row.c.isVar ∨ ¬ off + n ≤ row.c.len then none else (row.c.sub off n).map some
    | none => none
  | d => match d.cont with
    | some c => some (some c)
    | none => none

def Cont.over (off : Nat) : Cont → Cont → Option Cont   -- written over from off on, in place
  | .ints k xs, .ints k' ys => if k = k' then some (.ints k (xs.take off ++ ys ++ xs.drop (off + ys.length))) else none
  | .bools xs, .bools ys => some (.bools (xs.take off ++ ys ++ xs.drop (off + ys.length)))
  | .ints2 k xs, .ints2 k' ys => if k = k' then some (.ints2 k (xs.take off ++ ys ++ xs.drop (off + ys.length))) else none
  | .gen xs, .gen ys => some (.gen (xs.take off ++ ys ++ xs.drop (off + ys.length)))
  | _, _ => none

/-- append: what comes out, and the state; id: the new row's number. -/
def appendD (X : Ctx) (id : Nat) (ei : TI) (nk : NK) (x y : D) (st : St) : Option (D × St) :=
  if ei.size = 1 ∧ ei.bytes ≤ 64 then
    match srcC st.rows y with
    | none => none
    | some none => match x with
      | .nil k => some (.nil (if k = .unk then nk else k), st)
      | .rsl r off n => some (.rsl r off n, st)
      | _ => none
    | some (some cy) => match x with
      | .nil _ => if cy.len ≤ lim then some (.rsl id 0 cy.len, st.newRow id ⟨true, cy⟩) else none
      | .rsl r off n => match st.rows r with
        | some ⟨true, cx⟩ => if cx.isVar then none
          else if off + n = cx.len then
            (if n + cy.len ≤ lim then match cx.sub off n with
              | some c0 => (c0.app cy).map fun c => (.rsl id 0 (n + cy.len), (st.forget r).newRow id ⟨true, c⟩)
              | none => none else none)
          else if off + n + cy.len ≤ cx.len then (cx.over (off + n) cy).map fun c => (.rsl r off (n + cy.len), st.setRow r ⟨true, c⟩)
          else none
        | _ => none
      | _ => none
  else none

/-- append of a make -/
def appendZ (id : Nat) (ei : TI) (nk : NK) (x y : D) (st : St) : Option (D × St) :=
  if ei.size = 1 ∧ ei.bytes ≤ 64 then match x, y with
    | .nil _, .int _ n => if 0 < n ∧ n ≤ lim then (zeroC nk ei.zero n.toNat).map fun c => (.rsl id 0 n.toNat, st.newRow id ⟨true, c⟩) else none
    | _, _ => none
  else none

/-- How a write turns the rows. -/
inductive Chg where
  | keep | add (c : Cont) | app (r : Nat) (c : Cont) | set (r : Nat) (c : Cont)

def Chg.apply (id : Nat) (st : St) : Chg → St
  | .keep => st
  | .add c => st.newRow id ⟨true, c⟩
  | .app r c => (st.forget r).newRow id ⟨true, c⟩
  | .set r c => st.setRow r ⟨true, c⟩

/-- copy -/
def copyW (x y : D) (rows : Nat → Option Row) : Option (D × Chg) :=
  match srcC rows y with
  | none => none
  | some none => match x with
    | .nil _ => some (.int .i64 0, .keep)
    | .rsl _ _ _ => some (.int .i64 0, .keep)
    | _ => none
  | some (some cy) => match x with
    | .nil _ => some (.int .i64 0, .keep)
    | .rsl r off n => if min cy.len n = 0 then some (.int .i64 0, .keep) else match rows r with
      | some ⟨true, cx⟩ => if cx.isVar ∨ ¬ off + n ≤ cx.len then none else match cy.sub 0 (min cy.len n) with
        | some c0 => (cx.over off c0).map fun c => (.int .i64 (min cy.len n : Nat), .set r c)
        | none => none
      | _ => none
    | _ => none

/-- The beginning of a content. -/
def Cont.upto (off : Nat) : Cont → Option Cont
  | .ints k xs => some (.ints k (xs.take off))
  | .bools xs => some (.bools (xs.take off))
  | .ints2 k xs => some (.ints2 k (xs.take off))
  | .gen xs => some (.gen (xs.take off))
  | .var _ => none

/-- clear; what is cleared up to the row's end is not told any more. -/
def clearW (nk : NK) (zero : List D) (x : D) (rows : Nat → Option Row) : Option (D × Chg) :=
  match x with
  | .nil _ => some (.tup [], .keep)
  | .rsl r off n => if n = 0 then some (.tup [], .keep) else match rows r with
    | some ⟨true, cx⟩ => if cx.isVar ∨ ¬ off + n ≤ cx.len then none else match zeroC nk zero n with
      | some c0 => if off + n = cx.len then (match cx.over off c0, cx.upto off with
          | some _, some c => some (.tup [], .set r c)
          | _, _ => none) else (cx.over off c0).map fun c => (.tup [], .set r c)
      | none => none
    | _ => none
  | _ => none

def rowsIn (prows : List Row) : Nat → Option Row := fun i => if PB ≤ i then prows[i - PB]? else none

def idx (ids : List Nat) (r : Nat) : Option Nat := ids.findIdx? (· == r)

def inF (ids : List Nat) : Nat → Option Nat := fun r => (idx ids r).map (PB + ·)

def outF (ids : List Nat) (dst : Nat) (nout : Nat) : Nat → Option Nat := fun r =>
  if XB ≤ r then (if r - XB < nout then some (xid dst (r - XB)) else none)
  else if PB ≤ r then ids[r - PB]? else none

def dropAll : List Nat → St → St
  | [], st => st
  | i :: is, st => dropAll is (st.drop i)

/-- The rows behind a call: first what came back besides, then what was handed over. -/
def rowsBehind (ids : List Nat) (dst : Nat) (r : Ret) (rows : Nat → Option Row) : Nat → Option Row := fun i =>
  match (List.range r.out.length).find? (fun j => xid dst j == i) with
  | some j => (r.out[j]?).map (·.ren (outF ids dst r.out.length))
  | none => match idx ids i with
    | some j => ((r.passed[j]?).bind id).map (·.ren (outF ids dst r.out.length))
    | none => rows i

def gone (ids : List Nat) (r : Ret) : List Nat := ids.zipIdx.filterMap fun (i, j) => match r.passed[j]? with | some (some _) => none | _ => some i

def outIds (dst n : Nat) : List Nat := (List.range n).map (xid dst)

def nodupB (ids : List Nat) : Bool := ids.zipIdx.all fun (i, j) => idx ids i == some j

def callD (X : Ctx) (cl : FuncId → List D → List Row → Option Ret) (dst : Nat) (f : FuncId) (args : List D) (st : St) : Option (D × St) :=
  if X.byref f then
    let ids := reach st.rows args
    match mapO st.rows ids with
    | some rows =>
      if rows.all (·.wr) && decide (ids.length ≤ 1000) && nodupB ids then
        match cl f (D.renL (inF ids) args) (rows.map (·.ren (inF ids))) with
        | some r =>
          if decide (r.passed.length = ids.length) && decide (r.out.length ≤ 40) && (outIds dst r.out.length).all (fun i => !ids.contains i) then
            let s := dropAll (gone ids r ++ outIds dst r.out.length) st
            some (r.res.ren (outF ids dst r.out.length), { s with rows := rowsBehind ids dst r s.rows })
          else none
        | none => none
      else none
    | none => none
  else
    let Z := reach st.rows args
    match mapO (reify st.rows Z allRows) args with
    | some args' =>
      match cl f args' [] with
      | some r =>
        if r.passed.isEmpty && decide (r.out.length ≤ 40) then
          let s0 := if Z.isEmpty || (r.res.noImm && r.out.all fun x => x.wr && x.c.noImm) then st else st.freeze Z
          let s := dropAll (outIds dst r.out.length) s0
          some (r.res.ren (outF [] dst r.out.length), { s with rows := rowsBehind [] dst r s.rows })
        else none
      | none => none
    | none => none

/-- One operation. -/
def step (X : Ctx) (cl : FuncId → List D → List Row → Option Ret) (o : Oper) (st : St) : Option St :=
  match o.op, o.dst with
  | .assign x, some t => if t < 1000 then some (bindAt (nkOf X o.type) t t { st with env := st.env.set t (ev X st x) }) else none
  | .alloc t, some d => (X.tt t).map fun i => (boxRow (nid d) i.zero st).setD (some d) (.ptr (nid d) 0)
  | .box t x, some d => match X.tt t with
    | some i => if (ev X st x).known && (ev X st x).cells.length == i.size && (ev X st x).cells.all D.isCell then some ((boxRow (nid d) (ev X st x).cells st).setD (some d) (.ptr (nid d) 0)) else none
    | none => none
  | .store t ad x, none => match X.tt t with
    | some i => storeD X st i (ev X st ad) (ev X st x)
    | none => none
  | .buildSlice t n parts, some d => match elemOf X t with
    | some (e, ei) => if ei.size = 1 ∧ n ≤ 1000000 then
        match parts01 0 (parts.toList.map fun p => (p.1, ev X st p.2)) with
        | some ds => if ds.length = n then
            match emptyC (nkElem X e) with
            | some c0 => (buildC X (nkElem X e) ds c0 st).map fun (c, s) => (s.newRow (nid d) ⟨true, c⟩).setD (some d) (.rsl (nid d) 0 n)
            | none => none
          else none
        | none => none
      else none
    | none => none
  | .makeSlice t l c, some d => match elemOf X t, ev X st l, ev X st c with
    | some (e, ei), .int _ n, .int _ m => if ei.size = 1 ∧ ei.bytes ≤ 64 ∧ 0 ≤ n ∧ n ≤ m ∧ m ≤ lim then
        (zeroC (nkElem X e) ei.zero n.toNat).map fun c => (st.newRow (nid d) ⟨true, c⟩).setD (some d) (.rsl (nid d) 0 n.toNat)
      else none
    | _, _, _ => none
  | .call { callee := .builtin .append, args, argTypes }, some d => match args.toList, argTypes.toList with
    | [x, y], [t, ty] => match elemOf X t, X.tt ty with
      | some (e, ei), some ⟨.slice _, _, _, _⟩ => (appendD X (nid d) ei (nkElem X e) (ev X st x) (ev X st y) st).map fun (r, s) => s.setD (some d) r
      | some (e, ei), some ⟨.int _, _, _, _⟩ => (appendZ (nid d) ei (nkElem X e) (ev X st x) (ev X st y) st).map fun (r, s) => s.setD (some d) r
      | _, _ => none
    | _, _ => none
  | .call { callee := .builtin .copy, args, argTypes }, dst => match args.toList, argTypes.toList with
    | [x, y], [t, ty] => match elemOf X t, X.tt ty with
      | some (e, ei), some ⟨.slice _, _, _, _⟩ => if ei.size = 1 then (copyW (ev X st x) (ev X st y) st.rows).map fun (r, c) => (c.apply 0 st).setD dst r else none
      | _, _ => none
    | _, _ => none
  | .call { callee := .builtin .clear, args, argTypes }, dst => match args.toList, argTypes.toList with
    | [x], [t] => match elemOf X t with
      | some (e, ei) => if ei.size = 1 then (clearW (nkElem X e) ei.zero (ev X st x) st.rows).map fun (r, c) => (c.apply 0 st).setD dst r else none
      | none => none
    | _, _ => none
  | .call { callee := .value g, args, argTypes }, some d => match ev X st g with
    | .fn f cap => if (X.ft f).isNone then none else (callD X cl d f (args.toList.map (ev X st) ++ cap) st).map fun (r, s) => s.setD (some d) r
    | _ => none
  | _, _ => (quiet X st o).map fun d => st.setD o.dst d

/-! ### regions -/
inductive Want where
  | yes | no | unknown

def wanted (ops : Array Oper) (st : St) (o : Oper) : Want :=
  match o.guard with
  | none => .yes
  | some (j, want) => match (ops[j]?).bind (·.dst) with
    | some t => match st.env.getD t .any with
      | .bool b => if b = want then .yes else .no
      | .any => .unknown
      | _ => .no
    | none => .no

def stepG (X : Ctx) (cl : FuncId → List D → List Row → Option Ret) (ops : Array Oper) (o : Oper) (st : St) : Option St :=
  match wanted ops st o with
  | .yes => step X cl o st
  | .no => some (st.setD o.dst .und)
  | .unknown => none

def stepsG (X : Ctx) (cl : FuncId → List D → List Row → Option Ret) (ops : Array Oper) : List Oper → St → Option St
  | [], st => some st
  | o :: rest, st => match stepG X cl ops o st with
    | some s => stepsG X cl ops rest s
    | none => none

/-! ### regions that draw their order -/
def keepEnv (ts : List Nat) : Nat → List D → List D
  | _, [] => []
  | i, d :: ds => (if ts.contains i then d else .any) :: keepEnv ts (i + 1) ds

/-- The numbers of rows that an operation with this temporary makes. -/
def nset (d : Option Tmp) (r : Nat) : Bool := match d with
  | some d => decide (1000 ≤ r) && decide (r < 500000) && (r - 1000) % 10000 == d
  | none => false

def killP (p : Nat → Bool) : Nat → Option Nat := fun r => if p r then none else some r

def St.dropP (p : Nat → Bool) (st : St) : St := ⟨D.renL (killP p) st.env, fun i => if p i then none else (st.rows i).map (·.ren (killP p))⟩

def mask (p : Nat → Bool) (rows : Nat → Option Row) : Nat → Option Row := fun i => if p i then none else rows i

inductive Cls where
  | pure | read | new | write | no

def cls : Op → Cls
  | .call { callee := .value _, .. } => .new
  | .call { callee := .builtin .append, .. } => .write
  | .call { callee := .builtin .len, .. } => .pure
  | .call { callee := .builtin .cap, .. } => .pure
  | .call { callee := .builtin .copy, .. } => .write
  | .call { callee := .builtin .clear, .. } => .write
  | .buildSlice .. => .new
  | .store .. => .write
  | .load .. => .read
  | .assign _ | .move _ | .pick .. | .nilCheck _ | .binOp .. | .unOp .. | .convert .. | .makeFunc .. | .slice .. | .fieldAddr .. | .field .. | .indexAddr .. | .extract .. | .build .. => .pure
  | _ => .no

def makes (o : Op) : Bool := match cls o with | .new | .write => true | _ => false

/-- For each operation the set (a numeral's bits) of those that it waits for, through others too. -/
def closL : List Oper → List Nat → List Nat
  | [], acc => acc
  | o :: rest, acc => closL rest (acc ++ [o.after.toList.foldl (fun m e => if Region.binds .any e then (m ||| 2 ^ e.on) ||| acc.getD e.on 0 else m) 0])

/-- The rows that operation k may not look at: those of operations that it does not wait for. -/
def maskP (cl : List Nat) (k : Nat) : List Oper → Nat → Nat → Bool
  | [], _, _ => false
  | o :: rest, j, r => (j != k && (decide (k < j) || !(cl.getD k 0).testBit j) && makes o.op && nset o.dst r) || maskP cl k rest (j + 1) r

def allP : List Oper → Nat → Bool
  | [], _ => false
  | o :: rest, r => (makes o.op && nset o.dst r) || allP rest r

def quietA (X : Ctx) (st : St) (o : Oper) : Option D :=
  match o.op with
  | .assign x => some (ev X st x)
  | _ => quiet X st o

def intsD (k : IntKind) : List D → Option (List Int)
  | [] => some []
  | .int k' n :: r => if k = k' then (intsD k r).map (n :: ·) else none
  | _ => none

def ints2D (k : IntKind) : List D → Option (List (List Int))
  | [] => some []
  | .immI k' xs :: r => if k = k' then (ints2D k r).map (xs :: ·) else none
  | .nil _ :: r => (ints2D k r).map ([] :: ·)
  | _ => none

def boolsD : List D → Option (List Bool)
  | [] => some []
  | .bool b :: r => (boolsD r).map (b :: ·)
  | _ => none

def buildI : NK → List D → Option Cont
  | .bools, ds => (boolsD ds).map .bools
  | .ints k, ds => (intsD k ds).map (.ints k)
  | .ints2 k, ds => (ints2D k ds).map (.ints2 k)
  | _, _ => none

def scal : D → Bool
  | .int _ _ => true
  | .bool _ => true
  | _ => false

/-- A value of one cell that may be kept in a variable. -/
def cell1 : D → Bool
  | .int _ _ => true
  | .bool _ => true
  | .str _ => true
  | .nil _ => true
  | .rsl _ _ _ => true
  | _ => false

/-- A call, or a literal, that makes rows and freezes none. -/
def newD (X : Ctx) (cl : FuncId → List D → List Row → Option Ret) (st : St) (o : Oper) : Option (D × (Nat → Option Row)) :=
  match o.op, o.dst with
  | .call { callee := .value g, args, argTypes }, some d => match ev X st g with
    | .fn f cap => if (X.ft f).isNone || X.byref f then none else
      let all := args.toList.map (ev X st) ++ cap
      let Z := reach st.rows all
      match mapO (reify st.rows Z allRows) all with
      | some args' => match cl f args' [] with
        | some r => if r.passed.isEmpty && decide (r.out.length ≤ 40) && (Z.isEmpty || (r.res.noImm && r.out.all fun x => x.wr && x.c.noImm)) then
            some (r.res.ren (outF [] d r.out.length), rowsBehind [] d r fun _ => none)
          else none
        | none => none
      | none => none
    | _ => none
  | .buildSlice t n parts, some d => match elemOf X t with
    | some (e, ei) => if ei.size = 1 ∧ n ≤ 1000000 then
        match parts01 0 (parts.toList.map fun p => (p.1, ev X st p.2)) with
        | some ds => if ds.length = n then
            (buildI (nkElem X e) ds).map fun c => (.rsl (nid d) 0 n, fun i => if i = nid d then some ⟨true, c⟩ else none)
          else none
        | none => none
      else none
    | none => none
  | _, _ => none

/-- What turns rows: an append, an element's store. -/
def writeD (X : Ctx) (st : St) (rows : Nat → Option Row) (o : Oper) : Option (D × (Nat → Option Row)) :=
  match o.op, o.dst with
  | .call { callee := .builtin .append, args, argTypes }, some d => match args.toList, argTypes.toList with
    | [x, y], [t, ty] => match elemOf X t, X.tt ty with
      | some (e, ei), some ⟨.slice _, _, _, _⟩ => (appendD X (nid d) ei (nkElem X e) (ev X st x) (ev X st y) ⟨[], rows⟩).map fun (r, s) => (r, s.rows)
      | _, _ => none
    | _, _ => none
  | .store t ad x, none => match X.tt t, ev X st ad with
    | some i, .pel r j => if i.size = 1 ∧ i.agg = false ∧ scal (ev X st x) = true then
        match rows r with
        | some ⟨true, c⟩ => if c.isVar then none else (c.set j (ev X st x)).map fun c' => (.und, fun i => if i = r then some ⟨true, c'⟩ else rows i)
        | _ => none
      else none
    | some i, .ptr r off => if i.size = 1 ∧ i.agg = false ∧ cell1 (ev X st x) = true then
        match rows r with
        | some ⟨true, .var old⟩ => if off < old.length then some (.und, fun i => if i = r then some ⟨true, .var (old.set off (ev X st x))⟩ else rows i) else none
        | _ => none
      else none
    | _, _ => none
  | .call { callee := .builtin .copy, args, argTypes }, _ => match args.toList, argTypes.toList with
    | [x, y], [t, ty] => match elemOf X t, X.tt ty with
      | some (e, ei), some ⟨.slice _, _, _, _⟩ => if ei.size = 1 then (copyW (ev X st x) (ev X st y) rows).map fun (r, c) => (r, (c.apply 0 ⟨[], rows⟩).rows) else none
      | _, _ => none
    | _, _ => none
  | .call { callee := .builtin .clear, args, argTypes }, _ => match args.toList, argTypes.toList with
    | [x], [t] => match elemOf X t with
      | some (e, ei) => if ei.size = 1 then (clearW (nkElem X e) ei.zero (ev X st x) rows).map fun (r, c) => (r, (c.apply 0 ⟨[], rows⟩).rows) else none
      | none => none
    | _, _ => none
  | _, _ => none

def addRows (dst : Option Tmp) (add rows : Nat → Option Row) : Nat → Option Row := fun i => if nset dst i then add i else rows i

def stepD (X : Ctx) (cl : FuncId → List D → List Row → Option Ret) (ops : Array Oper) (clo : List Nat) (k : Nat) (o : Oper) (st : St) : Option St :=
  let e := keepEnv (o.looksAt ops) 0 st.env
  match wanted ops ⟨e, fun _ => none⟩ o with
  | .no => some (st.setD o.dst .und)
  | .unknown => none
  | .yes => match cls o.op with
    | .pure => (quietA X ⟨e, fun _ => none⟩ o).map fun d => st.setD o.dst d
    | .read => (quietA X ⟨e, mask (maskP clo k ops.toList 0) st.rows⟩ o).map fun d => st.setD o.dst d
    | .new => (newD X cl ⟨e, mask (maskP clo k ops.toList 0) st.rows⟩ o).map fun p => { st with rows := addRows o.dst p.2 st.rows }.setD o.dst p.1
    | .write => (writeD X ⟨e, fun _ => none⟩ st.rows o).map fun p => { st with rows := p.2 }.setD o.dst p.1
    | .no => none

def stepsD (X : Ctx) (cl : FuncId → List D → List Row → Option Ret) (ops : Array Oper) (clo : List Nat) : List Oper → Nat → St → Option St
  | [], _, st => some st
  | o :: rest, k, st => match stepD X cl ops clo k o st with
    | some s => stepsD X cl ops clo rest (k + 1) s
    | none => none

/-- What a variable's cell holds gets the cell's own row. -/
def bindCell (d : D) (st : St) : St :=
  match d with
  | .ptr r off => match st.rows r with
    | some ⟨true, .var cells⟩ => match cells.getD off .any with
      | .rsl q 0 _ => if unbound q && (st.rows q).isSome && q != home r off then st.move q (home r off) else st
      | _ => st
    | _ => st
  | _ => st

def bindEnd (X : Ctx) : List Oper → St → St
  | [], st => st
  | o :: rest, st => match o.op, o.dst with
    | .assign _, some t => if t < 1000 then bindEnd X rest (bindAt (nkOf X o.type) t t st) else bindEnd X rest st
    | .store _ ad _, none => bindEnd X rest (bindCell (ev X st ad) st)
    | _, _ => bindEnd X rest st

def commOK (ops : Array Oper) (ok oi : Oper) : Bool :=
  ok.apart ops oi && match cls ok.op, cls oi.op with
  | .pure, _ => true
  | _, .pure => true
  | .read, .read => true
  | .read, .new => true
  | .new, .read => true
  | .new, .new => true
  | _, _ => false

def orderAt (ops : Array Oper) (clo : List Nat) (i : Nat) (oi : Oper) : List Oper → Nat → Bool
  | [], _ => true
  | ok :: rest, k => (decide (i ≤ k) || (((clo.getD i 0).testBit k || commOK ops ok oi) && (!makes ok.op || !makes oi.op || ok.dst.isNone || ok.dst != oi.dst))) && orderAt ops clo i oi rest (k + 1)

def orderAll (ops : Array Oper) (clo : List Nat) : List Oper → Nat → Bool
  | [], _ => true
  | oi :: rest, i => oi.after.all (fun e => !Region.binds .any e || decide (e.on < i)) && (match oi.dst with | some d => decide (d < 10000) | none => true) && orderAt ops clo i oi ops.toList 0 && orderAll ops clo rest (i + 1)

/-- In every order that its edges allow the region comes to the same. -/
def orderOK (ops : Array Oper) : Bool := orderAll ops (closL ops.toList []) ops.toList 0

def drawD (X : Ctx) (cl : FuncId → List D → List Row → Option Ret) (ops : Array Oper) (st : St) : Option St :=
  if orderOK ops then (stepsD X cl ops (closL ops.toList []) ops.toList 0 (st.dropP (allP ops.toList))).map (bindEnd X ops.toList) else none

/-! ### code -/
inductive Out where
  | normal (st : St) | exit (id : Nat) (st : St) | ret (st : St)

def evalRegion (X : Ctx) (cl : FuncId → List D → List Row → Option Ret) (ops : Array Oper) (draw : Bool) (st : St) : Option St :=
  if draw then drawD X cl ops st else stepsG X cl ops ops.toList st

def rowsOf : List (Nat × Row) → Nat → Option Row
  | [], _ => none
  | (j, r) :: l, i => if i = j then some r else rowsOf l i

def pickRows (rows : Nat → Option Row) : List Nat → List (Nat × Row)
  | [] => []
  | i :: is => match rows i with
    | some r => (i, r) :: pickRows rows is
    | none => pickRows rows is

/-- At a loop's head only what the hint names is kept. -/
def St.keep (h : Option Hint) (st : St) : St :=
  match h with
  | some h => { env := keepEnv h.temps 0 st.env, rows := rowsOf (pickRows st.rows (dedup (reach st.rows (keepEnv h.temps 0 st.env) ++ h.rows))) }
  | none => st

/-- Behind a loop only what the hint names is kept. -/
def St.keepOut (h : Option Hint) (st : St) : St :=
  match h with
  | some h => { env := keepEnv h.out 0 st.env, rows := rowsOf (pickRows st.rows (dedup (reach st.rows (keepEnv h.out 0 st.env) ++ h.rows))) }
  | none => st

def Out.keep (h : Option Hint) : Out → Out
  | .normal st => .normal (st.keepOut h)
  | .exit i st => .exit i (st.keepOut h)
  | .ret st => .ret (st.keepOut h)

def evalLoop (h : Option Hint) (body : St → Option Out) : Nat → St → Option Out
  | 0, _ => none
  | n + 1, st => match body (st.keep h) with
    | some (.normal s) => evalLoop h body n s
    | some r => some (r.keep h)
    | none => none

def evalCode (X : Ctx) (cl : FuncId → List D → List Row → Option Ret) (f : FuncId) (n : Nat) (bid : Nat) : Code → St → Option Out
  | .skip, st => some (.normal st)
  | .label _, st => some (.normal st)
  | .region _ ops draw, st => (evalRegion X cl ops draw st).map .normal
  | .seq a b, st => match evalCode X cl f n bid a st with
    | some (.normal s) => evalCode X cl f n bid b s
    | r => r
  | .cond c x y, st => match ev X st c with
    | .bool b => if b then evalCode X cl f n bid x st else evalCode X cl f n bid y st
    | _ => none
  | .block id body, st => match evalCode X cl f n id body st with
    | some (.exit j s) => if j = id then some (.normal s) else some (.exit j s)
    | r => r
  | .loop body, st => evalLoop (X.keep f bid) (evalCode X cl f n bid body) n st
  | .exit id, st => some (.exit id st)
  | .ret, st => some (.ret st)
  | _, _ => none

/-! ### functions -/
def resD (X : Ctx) (st : St) : ResultVar → Option D
  | .tmp t => some (st.env.getD t .any)
  | .cell a t => match X.tt t with
    | some i => loadD i st.rows (st.env.getD a .any)
    | none => none

def outNo (E : List Nat) : Nat → Option Nat := fun r => match idx E r with
  | some j => some (XB + j)
  | none => if PB ≤ r ∧ r < XB then some r else none

/-- What is handed back: the result's rows, and those that the handed rows lead to. -/
def export_ (np : Nat) (st : St) (res : D) : Option Ret :=
  let pas := (List.range np).map (PB + ·)
  let own := reach st.rows [res]
  let more := (reach st.rows (pas.map fun i => .ptr i 0)).filter fun i => !(decide (PB ≤ i) && decide (i < XB)) && !own.contains i
  let E := own ++ more
  match mapO st.rows E with
  | some rows => if nodupB E then some { res := res.ren (outNo E), passed := pas.map fun i => if own.contains i then none else (st.rows i).map (·.ren (outNo E)), out := rows.map (·.ren (outNo E)) } else none
  | none => none

def oneOr (ds : List D) : D := match ds with | [d] => d | _ => .tup ds

def evalFn (X : Ctx) : Nat → FuncId → List D → List Row → Option Ret
  | 0, _, _, _ => none
  | k + 1, f, args, prows => match X.prim f args prows with
   | some r => some r
   | none => match X.ft f with
    | some fn => match fn.body with
      | some c => match evalCode X (evalFn X k) f k 0 c { env := args ++ List.replicate (fn.ntmps - args.length) .und, rows := rowsIn prows } with
        | some (.ret st) | some (.normal st) => match mapO (resD X st) fn.results.toList with
          | some ds => export_ prows.length st (oneOr ds)
          | none => none
        | _ => none
      | none => none
    | none => none

end Go.PR
