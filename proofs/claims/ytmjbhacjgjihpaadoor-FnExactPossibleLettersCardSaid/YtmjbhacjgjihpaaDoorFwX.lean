/- The evaluator, the rest: operations that make or turn rows, calls, code, functions. -/
import Derived.Test.YtmjbhacjgjihpaaDoorFwE2
import Derived.Laws.MakeOwn
set_option linter.unusedVariables false
set_option linter.unusedSimpArgs false
set_option linter.unusedSectionVars false
section
namespace Go.PR
open Go
def lim : Nat := 1099511627776
def emptyC : NK → Option Cont
  | .ints k => some (.ints k [])
  | .bools => some (.bools [])
  | .ints2 k => some (.ints2 k [])
  | .gen => some (.gen [])
  | _ => none
def fkOf (X : Ctx) (t : TypeId) : Option FK :=
  match X.tt t with
  | some ⟨.int k, _, _, _⟩ => some (.int k)
  | some ⟨.bool, _, _, _⟩ => some .bool
  | some ⟨.slice e, _, _, _⟩ => match X.tt e with
    | some ⟨.int k, _, _, _⟩ => some (.ints k)
    | some ⟨.slice e2, _, _, _⟩ => match X.tt e2 with
      | some ⟨.int k, _, _, _⟩ => some (.ints2 k)
      | _ => none
    | _ => none
  | _ => none
def shOf (X : Ctx) (ei : TI) : Option (List FK) :=
  match ei.kind with
  | .struct fs => mapO (fun p => fkOf X p.2) fs
  | _ => none
def packP : List FK → List D → Option Rcd
  | [], [] => some ⟨[], [], []⟩
  | f :: fs, d :: ds => match packP fs ds with
    | some p => match f, d with
      | .int k, .int k' n => if k = k' then some ⟨n :: p.is, p.ls, p.lls⟩ else none
      | .bool, .bool b => some ⟨b2i b :: p.is, p.ls, p.lls⟩
      | .ints k, .immI k' xs => if k = k' then some ⟨p.is, xs :: p.ls, p.lls⟩ else none
      | .ints _, .nil _ => some ⟨p.is, [] :: p.ls, p.lls⟩
      | .ints2 k, .imm2 k' xss => if k = k' then some ⟨p.is, p.ls, xss :: p.lls⟩ else none
      | .ints2 _, .nil _ => some ⟨p.is, p.ls, [] :: p.lls⟩
      | _, _ => none
    | none => none
  | _, _ => none
def elemOf (X : Ctx) (t : TypeId) : Option (TypeId × TI) :=
  match X.tt t with
  | some ⟨.slice e, _, _, _⟩ => (X.tt e).map fun i => (e, i)
  | _ => none
def emptyN : NK → Option Cont
  | .nest k => some (.nest k [])
  | .recs sh => some (.recs sh [])
  | k => emptyC k
def emptyD (hm : Nat) : Cont → D
  | .nest _ _ => .nsl hm 0
  | .recs sh _ => .rcs hm sh.length 0
  | _ => .rsl hm 0 0
def nestAt (X : Ctx) (o : Oper) (e : TypeId) : Bool := X.nestPos o.pos && (match nkElem X e with | .ints2 _ => true | _ => false)
def nkAt (X : Ctx) (o : Oper) : NK := if X.nilPos o.pos then .unk else if X.nestPos o.pos then (match nkOf X o.type with
    | .ints2 k => .nest k
    | .gen => (match elemOf X o.type with
      | some (_, ei) => (match shOf X ei with | some sh => .recs sh | none => .gen)
      | none => .gen)
    | k => k) else nkOf X o.type
def zeroAt (X : Ctx) (o : Oper) (t : TypeId) (i : TI) : List D :=
  if X.nestPos o.pos then (match i.kind with
    | .struct fs => nestF X fs i.zero
    | _ => nestF X [(0, t)] i.zero)
  else i.zero
def unbound (r : Nat) : Bool := decide (1000 ≤ r) && decide (r < 500000)
def loose (r : Nat) : Bool := unbound r || (decide (PB ≤ r) && decide (r < XB))
def bindAt (k : NK) (i hm : Nat) (st : St) : St :=
  match st.env.getD i .any with
  | .rsl r _ n => if unbound r && (st.rows r).isSome && r != hm then st.move r hm else st
  | .nsl r _ => if loose r && (st.rows r).isSome && r != hm then st.move r hm else st
  | .rcs r _ _ => if unbound r && (st.rows r).isSome && r != hm then st.move r hm else st
  | .nil k' => match emptyN (if k' = .unk then k else k') with
    | some c => { (st.newRow hm ⟨true, c⟩) with env := (st.newRow hm ⟨true, c⟩).env.set i (emptyD hm c) }
    | none => st
  | _ => st
def bindAll (hm : Nat → Nat) : (n i j : Nat) → St → St
  | 0, _, _, st => st
  | n + 1, i, j, st => bindAll hm n (i + 1) (j + 1) (bindAt .unk i (hm j) st)
def St.push (ds : List D) (st : St) : St := { st with env := st.env ++ ds }
def St.cut (n : Nat) (st : St) : St := { st with env := st.env.take n }
def boxRow (id : Nat) (cells : List D) (st : St) : St :=
  let s := bindAll (home id) cells.length st.env.length 0 (st.push cells)
  (s.cut st.env.length).newRow id ⟨true, .var (D.renL (killF id) (s.env.drop st.env.length))⟩
def z2u (r off : Nat) (cells : List D) (st : St) : Option St :=
  let s := bindAll (fun j => home r (off + j)) cells.length st.env.length 0 (st.push (cells ++ [.ptr r off]))
  match s.env.getD (st.env.length + cells.length) .any with
  | .ptr r' off' => match s.rows r' with
    | some ⟨true, .var old⟩ => if off' + cells.length ≤ old.length then some ((s.cut st.env.length).setRow r' ⟨true, .var (setCells old off' ((s.env.drop st.env.length).take cells.length))⟩) else none
    | _ => none
  | _ => none
def allRows : Nat := 6
def settle (st : St) (d : D) : Option (D × St) :=
  let Z := reach st.rows [d]
  (reify st.rows Z allRows d).map fun d' => (d', if Z.isEmpty then st else st.freeze Z)
mutual
def D.cutIn (r : Nat) : D → D
  | .nel q j n => if q = r then .any else .nel q j n
  | .nep q j i => if q = r then .any else .nep q j i
  | .fn f cap => .fn f (D.cutInL r cap)
  | .agg cs => .agg (D.cutInL r cs)
  | .tup vs => .tup (D.cutInL r vs)
  | d => d
def D.cutInL (r : Nat) : List D → List D
  | [] => []
  | d :: ds => d.cutIn r :: D.cutInL r ds
end
def Cont.cutIn (r : Nat) : Cont → Cont
  | .var cells => .var (D.cutInL r cells)
  | c => c
def Row.cutIn (r : Nat) (row : Row) : Row := ⟨row.wr, row.c.cutIn r⟩
def St.cutIn (r : Nat) (st : St) : St := ⟨D.cutInL r st.env, fun i => (st.rows i).map (Row.cutIn r)⟩
def nestLit (nk : NK) (id : Nat) (ds : List D) (st : St) : Option (D × St) :=
  match ds with
  | [] => match nk with
    | .ints2 k => some (.nsl id 0, st.newRow id ⟨true, .nest k []⟩)
    | _ => none
  | [.rsl s 0 m] => match st.rows s with
    | some ⟨true, .ints k xs⟩ => if m = xs.length then some (.nsl id 1, (st.drop s).newRow id ⟨true, .nest k [xs]⟩) else none
    | _ => none
  | _ => none
def z29 (nk : NK) (zero : List D) (id n : Nat) (st : St) : Option (D × St) :=
  match nk, zero with
  | .ints2 k, [.nil .unk] => some (.nsl id n, st.newRow id ⟨true, .nest k (List.replicate n [])⟩)
  | _, _ => none
def isN : D → Bool
  | .nsl _ _ => true
  | _ => false
def nestApp (ei : TI) (id : Nat) (x y : D) (st : St) : Option (D × St) :=
  if ei.size = 1 ∧ ei.bytes ≤ 64 then
    match y with
    | .nsl s m => match st.rows s with
      | some ⟨true, .nest k yss⟩ => match x with
        | .nil _ => if m = yss.length ∧ 0 < m ∧ m ≤ lim then some (.nsl id m, (st.drop s).newRow id ⟨true, .nest k yss⟩) else none
        | .nsl r n => match st.rows r with
          | some ⟨true, .nest k' xss⟩ => if m = yss.length ∧ 0 < m ∧ r ≠ s ∧ k = k' ∧ n = xss.length ∧ n + m ≤ lim then some (.nsl id (n + m), ((st.drop s).drop r).newRow id ⟨true, .nest k (xss ++ yss)⟩) else none
          | _ => none
        | _ => none
      | _ => none
    | _ => none
  else none
def storeD (X : Ctx) (st : St) (i : TI) (addr val : D) : Option St :=
  match addr with
  | .ptr r off => if val.known && val.cells.length == i.size && val.cells.all D.isCell then z2u r off val.cells st else none
  | .pel r j => if i.size = 1 ∧ i.agg = false then
      match settle st val with
      | some (d, s) => match s.rows r with
        | some ⟨true, c⟩ => if c.isVar then none else (c.set j d).map fun c' => s.setRow r ⟨true, c'⟩
        | _ => none
      | none => none
    else none
  | .nep r j q => if i.size = 1 ∧ i.agg = false then
      match st.rows r, val with
      | some ⟨true, .nest k xss⟩, .int k' x => if k = k' ∧ j < xss.length ∧ q < (xss.getD j []).length then some (st.setRow r ⟨true, .nest k (xss.set j ((xss.getD j []).set q x))⟩) else none
      | _, _ => none
    else none
  | .npe r j => if i.size = 1 ∧ i.agg = false then
      match st.rows r, val with
      | some ⟨true, .nest k xss⟩, .rsl s 0 m => match st.rows s with
        | some ⟨true, .ints k' xs⟩ => if k = k' ∧ r ≠ s ∧ r < 500000 ∧ j < xss.length ∧ m = xs.length then some ((((st.cutIn r).forget r).drop s).setRow r ⟨true, .nest k (xss.set j xs)⟩) else none
        | _ => none
      | _, _ => none
    else none
  | .rpe r sz j f => match settle st val with
    | some (d, s) => match s.rows r with
      | some ⟨true, .recs sh ps⟩ => if sz = sh.length ∧ j < ps.length ∧ d.known = true ∧ d.cells.length = i.size ∧ d.cells.all D.isCell = true ∧ f + i.size ≤ sz then
          (packP sh (setCells (cellsOf sh (rcdAt ps j)) f d.cells)).map fun p => s.setRow r ⟨true, .recs sh (ps.set j p)⟩
        else none
      | _ => none
    | none => none
  | _ => none
def parts01 : Nat → List (Nat × D) → Option (List D)
  | _, [] => some []
  | k, (i, d) :: rest => if i = k then (parts01 (k + 1) rest).map (d :: ·) else none
def buildC (X : Ctx) (nk : NK) : List D → Cont → St → Option (Cont × St)
  | [], c, st => some (c, st)
  | d :: rest, c, st => match settle st d with
    | some (d', s) => match c, d' with
      | .ints k xs, .int k' n => if k = k' then buildC X nk rest (.ints k (xs ++ [n])) s else none
      | .bools xs, .bool b => buildC X nk rest (.bools (xs ++ [b])) s
      | .ints2 k xss, .immI k' xs => if k = k' then buildC X nk rest (.ints2 k (xss ++ [xs])) s else none
      | .ints2 k xss, .nil _ => buildC X nk rest (.ints2 k (xss ++ [[]])) s
      | .gen els, d' => if d'.plain then buildC X nk rest (.gen (els ++ [d'])) s else none
      | _, _ => none
    | none => none
def buildR (sh : List FK) : List D → St → Option (List Rcd × St)
  | [], st => some ([], st)
  | d :: rest, st => match settle st d with
    | some (.agg cells, s) => match packP sh cells with
      | some p => (buildR sh rest s).map fun q => (p :: q.1, q.2)
      | none => none
    | _ => none
def zeroC : NK → List D → Nat → Option Cont
  | .ints k, [.int k' 0], n => if k = k' then some (.ints k (List.replicate n 0)) else none
  | .bools, [.bool false], n => some (.bools (List.replicate n false))
  | .ints2 k, [.nil _], n => some (.ints2 k (List.replicate n []))
  | _, _, _ => none
def srcC (rows : Nat → Option Row) : D → Option (Option Cont)
  | .nil _ => some none
  | .rsl r off n => match rows r with
    | some row => if row.c.isVar ∨ ¬ off + n ≤ row.c.len then none else (row.c.sub off n).map some
    | none => none
  | d => match d.cont with
    | some c => some (some c)
    | none => none
def Cont.over (off : Nat) : Cont → Cont → Option Cont   -- written over from off on, in place
  | .ints k xs, .ints k' ys => if k = k' then some (.ints k (xs.take off ++ ys ++ xs.drop (off + ys.length))) else none
  | .bools xs, .bools ys => some (.bools (xs.take off ++ ys ++ xs.drop (off + ys.length)))
  | .ints2 k xs, .ints2 k' ys => if k = k' then some (.ints2 k (xs.take off ++ ys ++ xs.drop (off + ys.length))) else none
  | .gen xs, .gen ys => some (.gen (xs.take off ++ ys ++ xs.drop (off + ys.length)))
  | _, _ => none
def appendD (X : Ctx) (id : Nat) (ei : TI) (nk : NK) (x y : D) (st : St) : Option (D × St) :=
  if ei.size = 1 ∧ ei.bytes ≤ 64 then
    match srcC st.rows y with
    | none => none
    | some none => match x with
      | .nil k => some (.nil (if k = .unk then nk else k), st)
      | .rsl r off n => some (.rsl r off n, st)
      | _ => none
    | some (some cy) => match x with
      | .nil _ => if cy.len ≤ lim then some (.rsl id 0 cy.len, st.newRow id ⟨true, cy⟩) else none
      | .rsl r off n => match st.rows r with
        | some ⟨true, cx⟩ => if cx.isVar then none
          else if off + n = cx.len then
            (if n + cy.len ≤ lim then match cx.sub off n with
              | some c0 => (c0.app cy).map fun c => (.rsl id 0 (n + cy.len), (st.forget r).newRow id ⟨true, c⟩)
              | none => none else none)
          else if off + n + cy.len ≤ cx.len then (cx.over (off + n) cy).map fun c => (.rsl r off (n + cy.len), st.setRow r ⟨true, c⟩)
          else none
        | _ => none
      | _ => none
  else none
def appendZ (id : Nat) (ei : TI) (nk : NK) (x y : D) (st : St) : Option (D × St) :=
  if ei.size = 1 ∧ ei.bytes ≤ 64 then match x, y with
    | .nil _, .int _ n => if 0 < n ∧ n ≤ lim then (zeroC nk ei.zero n.toNat).map fun c => (.rsl id 0 n.toNat, st.newRow id ⟨true, c⟩) else none
    | _, _ => none
  else none
def recSrc (rows : Nat → Option Row) : D → Option (List FK × List Rcd)
  | .rcs s sz m => match rows s with
    | some ⟨_, .recs sh ys⟩ => if sz = sh.length ∧ m = ys.length then some (sh, ys) else none
    | _ => none
  | .immR sh ys => some (sh, ys)
  | _ => none
def isR : D → Bool
  | .rcs _ _ _ => true
  | .immR _ _ => true
  | _ => false
def recApp (ei : TI) (id : Nat) (x y : D) (st : St) : Option (D × St) :=
  match recSrc st.rows y with
  | some (sh, ys) => if ei.size = sh.length ∧ 0 < sh.length ∧ ei.bytes ≤ 128 then
      match x with
      | .nil _ => if 0 < ys.length ∧ ys.length ≤ lim then some (.rcs id sh.length ys.length, st.newRow id ⟨true, .recs sh ys⟩) else none
      | .rcs r sz n => match st.rows r with
        | some ⟨true, .recs sh' xs⟩ => if sh' = sh ∧ sz = sh.length ∧ n = xs.length ∧ 0 < ys.length ∧ n + ys.length ≤ lim then some (.rcs id sh.length (xs ++ ys).length, (st.forget r).newRow id ⟨true, .recs sh (xs ++ ys)⟩) else none
        | _ => none
      | _ => none
    else none
  | none => none
def recMake (sh : List FK) (zero : List D) (id n : Nat) (st : St) : Option (D × St) :=
  (packP sh zero).map fun p => (.rcs id sh.length n, st.newRow id ⟨true, .recs sh (List.replicate n p)⟩)
def appendN (X : Ctx) (id : Nat) (ei : TI) (nk : NK) (x y : D) (st : St) : Option (D × St) :=
  if isN y then nestApp ei id x y st else if isR y then recApp ei id x y st else appendD X id ei nk x y st
inductive Chg where
  | keep | add (c : Cont) | app (r : Nat) (c : Cont) | set (r : Nat) (c : Cont)
def Chg.apply (id : Nat) (st : St) : Chg → St
  | .keep => st
  | .add c => st.newRow id ⟨true, c⟩
  | .app r c => (st.forget r).newRow id ⟨true, c⟩
  | .set r c => st.setRow r ⟨true, c⟩
def copyW (x y : D) (rows : Nat → Option Row) : Option (D × Chg) :=
  match srcC rows y with
  | none => none
  | some none => match x with
    | .nil _ => some (.int .i64 0, .keep)
    | .rsl _ _ _ => some (.int .i64 0, .keep)
    | _ => none
  | some (some cy) => match x with
    | .nil _ => some (.int .i64 0, .keep)
    | .rsl r off n => if min cy.len n = 0 then some (.int .i64 0, .keep) else match rows r with
      | some ⟨true, cx⟩ => if cx.isVar ∨ ¬ off + n ≤ cx.len then none else match cy.sub 0 (min cy.len n) with
        | some c0 => (cx.over off c0).map fun c => (.int .i64 (min cy.len n : Nat), .set r c)
        | none => none
      | _ => none
    | _ => none
def Cont.upto (off : Nat) : Cont → Option Cont
  | .ints k xs => some (.ints k (xs.take off))
  | .bools xs => some (.bools (xs.take off))
  | .ints2 k xs => some (.ints2 k (xs.take off))
  | .gen xs => some (.gen (xs.take off))
  | .var _ => none
  | .mp _ _ _ => none
  | .nest _ _ => none
  | .recs _ _ => none
def clearW (nk : NK) (zero : List D) (x : D) (rows : Nat → Option Row) : Option (D × Chg) :=
  match x with
  | .nil _ => some (.tup [], .keep)
  | .rsl r off n => if n = 0 then some (.tup [], .keep) else match rows r with
    | some ⟨true, cx⟩ => if cx.isVar ∨ ¬ off + n ≤ cx.len then none else match zeroC nk zero n with
      | some c0 => if off + n = cx.len then (match cx.over off c0, cx.upto off with
          | some _, some c => some (.tup [], .set r c)
          | _, _ => none) else (cx.over off c0).map fun c => (.tup [], .set r c)
      | none => none
    | _ => none
  | _ => none
def rowsIn (prows : List Row) : Nat → Option Row := fun i => if PB ≤ i then prows[i - PB]? else none
def idx (ids : List Nat) (r : Nat) : Option Nat := ids.findIdx? (· == r)
def inF (ids : List Nat) : Nat → Option Nat := fun r => (idx ids r).map (PB + ·)
def outF (ids : List Nat) (dst : Nat) (nout : Nat) : Nat → Option Nat := fun r =>
  if XB ≤ r then (if r - XB < nout then some (xid dst (r - XB)) else none)
  else if PB ≤ r then ids[r - PB]? else none
def dropAll : List Nat → St → St
  | [], st => st
  | i :: is, st => dropAll is (st.drop i)
def zx (ids : List Nat) (dst : Nat) (r : Ret) (rows : Nat → Option Row) : Nat → Option Row := fun i =>
  match (List.range r.out.length).find? (fun j => xid dst j == i) with
  | some j => (r.out[j]?).map (·.ren (outF ids dst r.out.length))
  | none => match idx ids i with
    | some j => ((r.passed[j]?).bind id).map (·.ren (outF ids dst r.out.length))
    | none => rows i
def gone (ids : List Nat) (r : Ret) : List Nat := ids.zipIdx.filterMap fun (i, j) => match r.passed[j]? with | some (some _) => none | _ => some i
def outIds (dst n : Nat) : List Nat := (List.range n).map (xid dst)
def nodupB (ids : List Nat) : Bool := ids.zipIdx.all fun (i, j) => idx ids i == some j
def callD (X : Ctx) (cl : FuncId → List D → List Row → Option Ret) (dst : Nat) (f : FuncId) (args : List D) (st : St) : Option (D × St) :=
  if X.byref f then
    let ids := reach st.rows args
    match mapO st.rows ids with
    | some rows =>
      if rows.all (·.wr) && decide (ids.length ≤ 1000) && nodupB ids then
        match cl f (D.renL (inF ids) args) (rows.map (·.ren (inF ids))) with
        | some r =>
          if decide (r.passed.length = ids.length) && decide (r.out.length ≤ 40) && (outIds dst r.out.length).all (fun i => !ids.contains i) then
            let s := dropAll (gone ids r ++ outIds dst r.out.length) st
            some (r.res.ren (outF ids dst r.out.length), { s with rows := zx ids dst r s.rows })
          else none
        | none => none
      else none
    | none => none
  else
    let Z := reach st.rows args
    match mapO (reify st.rows Z allRows) args with
    | some args' =>
      match cl f args' [] with
      | some r =>
        if r.passed.isEmpty && decide (r.out.length ≤ 40) then
          let s0 := if Z.isEmpty || (r.res.noImm && r.out.all fun x => x.wr && x.c.noImm) then st else st.freeze Z
          let s := dropAll (outIds dst r.out.length) s0
          some (r.res.ren (outF [] dst r.out.length), { s with rows := zx [] dst r s.rows })
        else none
      | none => none
    | none => none
def mapPut (X : Ctx) (ke el : TypeId) (st : St) (m k v : D) : Option St :=
  match mapKV X ke el, m with
  | some (kk, vk), .mpr r => match st.rows r with
    | some ⟨true, .mp kk' vk' es⟩ => if kk = kk' ∧ vk = vk' then match keyD kk k, valD vk v with
        | some key, some x => some (st.setRow r ⟨true, .mp kk vk (mset kk es key x)⟩)
        | _, _ => none
      else none
    | _ => none
  | _, _ => none
def hintOK (X : Ctx) (st : St) : Option Operand → Bool
  | none => true
  | some x => match ev X st x with
    | .int _ _ => true
    | _ => false
def step (X : Ctx) (cl : FuncId → List D → List Row → Option Ret) (o : Oper) (st : St) : Option St :=
  match o.op, o.dst with
  | .assign x, some t => if t < 1000 then some (bindAt (nkAt X o) t t { st with env := st.env.set t (ev X st x) }) else none
  | .alloc t, some d => (X.tt t).map fun i => (boxRow (nid d) (zeroAt X o t i) st).setD (some d) (.ptr (nid d) 0)
  | .box t x, some d => match X.tt t with
    | some i => if (ev X st x).known && (ev X st x).cells.length == i.size && (ev X st x).cells.all D.isCell then some ((boxRow (nid d) (ev X st x).cells st).setD (some d) (.ptr (nid d) 0)) else none
    | none => none
  | .store t ad x, none => match X.tt t with
    | some i => storeD X st i (ev X st ad) (ev X st x)
    | none => none
  | .makeMap t hint, some d => match X.tt t with
    | some ⟨.map ke el, _, _, _⟩ => match mapKV X ke el with
      | some (kk, vk) => if hintOK X st hint then some ((st.newRow (nid d) ⟨true, .mp kk vk []⟩).setD (some d) (.mpr (nid d))) else none
      | none => none
    | _ => none
  | .mapUpdate t m k v, none => match X.tt t with
    | some ⟨.map ke el, _, _, _⟩ => mapPut X ke el st (ev X st m) (ev X st k) (ev X st v)
    | _ => none
  | .insert t m k v, none => match X.tt t with
    | some ⟨.map ke el, _, _, _⟩ => mapPut X ke el st (ev X st m) (ev X st k) (ev X st v)
    | _ => none
  | .buildSlice t n parts, some d => match elemOf X t with
    | some (e, ei) => if ei.size = 1 ∧ n ≤ 1000000 then
        match parts01 0 (parts.toList.map fun p => (p.1, ev X st p.2)) with
        | some ds => if ds.length = n then
            if nestAt X o e then (nestLit (nkElem X e) (nid d) ds st).map fun (r, s) => s.setD (some d) r else
            match emptyC (nkElem X e) with
            | some c0 => (buildC X (nkElem X e) ds c0 st).map fun (c, s) => (s.newRow (nid d) ⟨true, c⟩).setD (some d) (.rsl (nid d) 0 n)
            | none => none
          else none
        | none => none
      else if ei.agg = true ∧ n ≤ 1000 ∧ ei.size ≤ 1000 then
        match parts01 0 (parts.toList.map fun p => (p.1, ev X st p.2)), shOf X ei with
        | some ds, some sh => if ds.length = n ∧ sh.length = ei.size then
            if X.nestPos o.pos then (buildR sh ds st).map fun (ps, s) => (s.newRow (nid d) ⟨true, .recs sh ps⟩).setD (some d) (.rcs (nid d) sh.length n) else
            (buildR sh ds st).map fun (ps, s) => s.setD (some d) (.immR sh ps) else none
        | _, _ => none
      else none
    | none => none
  | .makeSlice t l c, some d => match elemOf X t, ev X st l, ev X st c with
    | some (e, ei), .int _ n, .int _ m => if ei.size = 1 ∧ ei.bytes ≤ 64 ∧ 0 ≤ n ∧ n ≤ m ∧ m ≤ lim then
        if nestAt X o e then (z29 (nkElem X e) ei.zero (nid d) n.toNat st).map fun (r, s) => s.setD (some d) r else
        (zeroC (nkElem X e) ei.zero n.toNat).map fun c => (st.newRow (nid d) ⟨true, c⟩).setD (some d) (.rsl (nid d) 0 n.toNat)
      else if ei.agg = true ∧ X.nestPos o.pos = true ∧ (0 < ei.size ∧ ei.size ≤ 1000) ∧ ei.bytes ≤ 128 ∧ 0 ≤ n ∧ n ≤ m ∧ m ≤ lim then match shOf X ei with
        | some sh => if sh.length = ei.size then (recMake sh ei.zero (nid d) n.toNat st).map fun (r, s) => s.setD (some d) r else none
        | none => none
      else none
    | _, _, _ => none
  | .call { callee := .builtin .append, args, argTypes }, some d => match args.toList, argTypes.toList with
    | [x, y], [t, ty] => match elemOf X t, X.tt ty with
      | some (e, ei), some ⟨.slice _, _, _, _⟩ => (appendN X (nid d) ei (nkElem X e) (ev X st x) (ev X st y) st).map fun (r, s) => s.setD (some d) r
      | some (e, ei), some ⟨.int _, _, _, _⟩ => (appendZ (nid d) ei (nkElem X e) (ev X st x) (ev X st y) st).map fun (r, s) => s.setD (some d) r
      | _, _ => none
    | _, _ => none
  | .call { callee := .builtin .copy, args, argTypes }, dst => match args.toList, argTypes.toList with
    | [x, y], [t, ty] => match elemOf X t, X.tt ty with
      | some (e, ei), some ⟨.slice _, _, _, _⟩ => if ei.size = 1 then (copyW (ev X st x) (ev X st y) st.rows).map fun (r, c) => (c.apply 0 st).setD dst r else none
      | _, _ => none
    | _, _ => none
  | .call { callee := .builtin .clear, args, argTypes }, dst => match args.toList, argTypes.toList with
    | [x], [t] => match elemOf X t with
      | some (e, ei) => if ei.size = 1 then (clearW (nkElem X e) ei.zero (ev X st x) st.rows).map fun (r, c) => (c.apply 0 st).setD dst r else none
      | none => none
    | _, _ => none
  | .call { callee := .value g, args, argTypes }, some d => match ev X st g with
    | .fn f cap => if (X.ft f).isNone then none else (callD X cl d f (args.toList.map (ev X st) ++ cap) st).map fun (r, s) => s.setD (some d) r
    | _ => none
  | _, _ => (quiet X st o).map fun d => st.setD o.dst d
inductive Want where
  | yes | no | unknown
def wanted (ops : Array Oper) (st : St) (o : Oper) : Want :=
  match o.guard with
  | none => .yes
  | some (j, want) => match (ops[j]?).bind (·.dst) with
    | some t => match st.env.getD t .any with
      | .bool b => if b = want then .yes else .no
      | .any => .unknown
      | _ => .no
    | none => .no
def stepG (X : Ctx) (cl : FuncId → List D → List Row → Option Ret) (ops : Array Oper) (o : Oper) (st : St) : Option St :=
  match wanted ops st o with
  | .yes => step X cl o st
  | .no => some (st.setD o.dst .und)
  | .unknown => none
def stepsG (X : Ctx) (cl : FuncId → List D → List Row → Option Ret) (ops : Array Oper) : List Oper → St → Option St
  | [], st => some st
  | o :: rest, st => match stepG X cl ops o st with
    | some s => stepsG X cl ops rest s
    | none => none
def keepEnv (ts : List Nat) : Nat → List D → List D
  | _, [] => []
  | i, d :: ds => (if ts.contains i then d else .any) :: keepEnv ts (i + 1) ds
def nset (d : Option Tmp) (r : Nat) : Bool := match d with
  | some d => decide (1000 ≤ r) && decide (r < 500000) && (r - 1000) % 10000 == d
  | none => false
def killP (p : Nat → Bool) : Nat → Option Nat := fun r => if p r then none else some r
def St.dropP (p : Nat → Bool) (st : St) : St := ⟨D.renL (killP p) st.env, fun i => if p i then none else (st.rows i).map (·.ren (killP p))⟩
def mask (p : Nat → Bool) (rows : Nat → Option Row) : Nat → Option Row := fun i => if p i then none else rows i
inductive Cls where
  | pure | read | new | write | no
def cls : Op → Cls
  | .call { callee := .value _, .. } => .new
  | .call { callee := .builtin .append, .. } => .write
  | .call { callee := .builtin .len, .. } => .pure
  | .call { callee := .builtin .cap, .. } => .pure
  | .call { callee := .builtin .copy, .. } => .write
  | .call { callee := .builtin .clear, .. } => .write
  | .buildSlice .. => .new
  | .store .. => .write
  | .load .. => .read
  | .lookup .. => .read
  | .assign _ | .move _ | .pick .. | .nilCheck _ | .binOp .. | .unOp .. | .convert .. | .makeFunc .. | .slice .. | .fieldAddr .. | .field .. | .indexAddr .. | .extract .. | .build .. => .pure
  | _ => .no
def makes (o : Op) : Bool := match cls o with | .new | .write => true | _ => false
def closL : List Oper → List Nat → List Nat
  | [], acc => acc
  | o :: rest, acc => closL rest (acc ++ [o.after.toList.foldl (fun m e => if Region.binds .any e then (m ||| 2 ^ e.on) ||| acc.getD e.on 0 else m) 0])
def maskP (cl : List Nat) (k : Nat) : List Oper → Nat → Nat → Bool
  | [], _, _ => false
  | o :: rest, j, r => (j != k && (decide (k < j) || !(cl.getD k 0).testBit j) && makes o.op && nset o.dst r) || maskP cl k rest (j + 1) r
def allP : List Oper → Nat → Bool
  | [], _ => false
  | o :: rest, r => (makes o.op && nset o.dst r) || allP rest r
def quietA (X : Ctx) (st : St) (o : Oper) : Option D :=
  match o.op with
  | .assign x => some (ev X st x)
  | _ => quiet X st o
def intsD (k : IntKind) : List D → Option (List Int)
  | [] => some []
  | .int k' n :: r => if k = k' then (intsD k r).map (n :: ·) else none
  | _ => none
def ints2D (k : IntKind) : List D → Option (List (List Int))
  | [] => some []
  | .immI k' xs :: r => if k = k' then (ints2D k r).map (xs :: ·) else none
  | .nil _ :: r => (ints2D k r).map ([] :: ·)
  | _ => none
def boolsD : List D → Option (List Bool)
  | [] => some []
  | .bool b :: r => (boolsD r).map (b :: ·)
  | _ => none
def buildI : NK → List D → Option Cont
  | .bools, ds => (boolsD ds).map .bools
  | .ints k, ds => (intsD k ds).map (.ints k)
  | .ints2 k, ds => (ints2D k ds).map (.ints2 k)
  | _, _ => none
def scal : D → Bool
  | .int _ _ => true
  | .bool _ => true
  | _ => false
def cell1 : D → Bool
  | .int _ _ => true
  | .bool _ => true
  | .str _ => true
  | .nil _ => true
  | .rsl _ _ _ => true
  | _ => false
def buildR0 (sh : List FK) : List D → Option (List Rcd)
  | [] => some []
  | .agg cells :: rest => match packP sh cells with
    | some p => (buildR0 sh rest).map fun ps => p :: ps
    | none => none
  | _ :: _ => none
def newD (X : Ctx) (cl : FuncId → List D → List Row → Option Ret) (st : St) (o : Oper) : Option (D × (Nat → Option Row)) :=
  match o.op, o.dst with
  | .call { callee := .value g, args, argTypes }, some d => match ev X st g with
    | .fn f cap => if (X.ft f).isNone || X.byref f then none else
      let all := args.toList.map (ev X st) ++ cap
      let Z := reach st.rows all
      match mapO (reify st.rows Z allRows) all with
      | some args' => match cl f args' [] with
        | some r => if r.passed.isEmpty && decide (r.out.length ≤ 40) && (Z.isEmpty || (r.res.noImm && r.out.all fun x => x.wr && x.c.noImm)) then
            some (r.res.ren (outF [] d r.out.length), zx [] d r fun _ => none)
          else none
        | none => none
      | none => none
    | _ => none
  | .buildSlice t n parts, some d => match elemOf X t with
    | some (e, ei) => if ei.size = 1 ∧ n ≤ 1000000 then
        match parts01 0 (parts.toList.map fun p => (p.1, ev X st p.2)) with
        | some ds => if ds.length = n then
            (buildI (nkElem X e) ds).map fun c => (.rsl (nid d) 0 n, fun i => if i = nid d then some ⟨true, c⟩ else none)
          else none
        | none => none
      else if ei.agg = true ∧ n ≤ 1000 ∧ ei.size ≤ 1000 then
        match parts01 0 (parts.toList.map fun p => (p.1, ev X st p.2)), shOf X ei with
        | some ds, some sh => if ds.length = n ∧ sh.length = ei.size then (buildR0 sh ds).map fun ps => (.immR sh ps, fun _ => none) else none
        | _, _ => none
      else none
    | none => none
  | _, _ => none
def writeD (X : Ctx) (st : St) (rows : Nat → Option Row) (o : Oper) : Option (D × (Nat → Option Row)) :=
  match o.op, o.dst with
  | .call { callee := .builtin .append, args, argTypes }, some d => match args.toList, argTypes.toList with
    | [x, y], [t, ty] => match elemOf X t, X.tt ty with
      | some (e, ei), some ⟨.slice _, _, _, _⟩ => (appendD X (nid d) ei (nkElem X e) (ev X st x) (ev X st y) ⟨[], rows⟩).map fun (r, s) => (r, s.rows)
      | _, _ => none
    | _, _ => none
  | .store t ad x, none => match X.tt t, ev X st ad with
    | some i, .pel r j => if i.size = 1 ∧ i.agg = false ∧ scal (ev X st x) = true then
        match rows r with
        | some ⟨true, c⟩ => if c.isVar then none else (c.set j (ev X st x)).map fun c' => (.und, fun i => if i = r then some ⟨true, c'⟩ else rows i)
        | _ => none
      else none
    | some i, .ptr r off => if i.size = 1 ∧ i.agg = false ∧ cell1 (ev X st x) = true then
        match rows r with
        | some ⟨true, .var old⟩ => if off < old.length then some (.und, fun i => if i = r then some ⟨true, .var (old.set off (ev X st x))⟩ else rows i) else none
        | _ => none
      else none
    | _, _ => none
  | .call { callee := .builtin .copy, args, argTypes }, _ => match args.toList, argTypes.toList with
    | [x, y], [t, ty] => match elemOf X t, X.tt ty with
      | some (e, ei), some ⟨.slice _, _, _, _⟩ => if ei.size = 1 then (copyW (ev X st x) (ev X st y) rows).map fun (r, c) => (r, (c.apply 0 ⟨[], rows⟩).rows) else none
      | _, _ => none
    | _, _ => none
  | .call { callee := .builtin .clear, args, argTypes }, _ => match args.toList, argTypes.toList with
    | [x], [t] => match elemOf X t with
      | some (e, ei) => if ei.size = 1 then (clearW (nkElem X e) ei.zero (ev X st x) rows).map fun (r, c) => (r, (c.apply 0 ⟨[], rows⟩).rows) else none
      | none => none
    | _, _ => none
  | _, _ => none
def addRows (dst : Option Tmp) (add rows : Nat → Option Row) : Nat → Option Row := fun i => if nset dst i then add i else rows i
def stepD (X : Ctx) (cl : FuncId → List D → List Row → Option Ret) (ops : Array Oper) (clo : List Nat) (k : Nat) (o : Oper) (st : St) : Option St :=
  let e := keepEnv (o.looksAt ops) 0 st.env
  match wanted ops ⟨e, fun _ => none⟩ o with
  | .no => some (st.setD o.dst .und)
  | .unknown => none
  | .yes => match cls o.op with
    | .pure => (quietA X ⟨e, fun _ => none⟩ o).map fun d => st.setD o.dst d
    | .read => (quietA X ⟨e, mask (maskP clo k ops.toList 0) st.rows⟩ o).map fun d => st.setD o.dst d
    | .new => (newD X cl ⟨e, mask (maskP clo k ops.toList 0) st.rows⟩ o).map fun p => { st with rows := addRows o.dst p.2 st.rows }.setD o.dst p.1
    | .write => (writeD X ⟨e, fun _ => none⟩ st.rows o).map fun p => { st with rows := p.2 }.setD o.dst p.1
    | .no => none
def stepsD (X : Ctx) (cl : FuncId → List D → List Row → Option Ret) (ops : Array Oper) (clo : List Nat) : List Oper → Nat → St → Option St
  | [], _, st => some st
  | o :: rest, k, st => match stepD X cl ops clo k o st with
    | some s => stepsD X cl ops clo rest (k + 1) s
    | none => none
def bindCell (d : D) (st : St) : St :=
  match d with
  | .ptr r off => match st.rows r with
    | some ⟨true, .var cells⟩ => match cells.getD off .any with
      | .rsl q _ _ => if unbound q && (st.rows q).isSome && q != home r off then st.move q (home r off) else st
      | .nsl q _ => if loose q && (st.rows q).isSome && q != home r off then st.move q (home r off) else st
      | .rcs q _ _ => if unbound q && (st.rows q).isSome && q != home r off then st.move q (home r off) else st
      | _ => st
    | _ => st
  | _ => st
def bindN (r off : Nat) (st : St) : St :=
  match st.rows r with
  | some ⟨true, .var cells⟩ => match cells.getD off .any with
    | .nsl q _ => if loose q && (st.rows q).isSome && q != home r off then st.move q (home r off) else st
    | _ => st
  | _ => st
def bindNs (r : Nat) : Nat → St → St
  | 0, st => st
  | n + 1, st => bindN r n (bindNs r n st)
def bindRow (d : D) (st : St) : St :=
  match d with
  | .ptr r _ => match st.rows r with
    | some ⟨_, .var cells⟩ => bindNs r cells.length st
    | _ => st
  | _ => st
def bindRows : List D → St → St
  | [], st => st
  | d :: ds, st => bindRows ds (bindRow d st)
def bindIn (n : Nat) (st : St) : St := bindRows ((List.range n).map fun j => .ptr (PB + j) 0) st
def bindEnd (X : Ctx) : List Oper → St → St
  | [], st => st
  | o :: rest, st => match o.op, o.dst with
    | .assign _, some t => if t < 1000 then bindEnd X rest (bindAt (nkAt X o) t t st) else bindEnd X rest st
    | .store _ ad _, none => bindEnd X rest (bindCell (ev X st ad) st)
    | .call { callee := .value _, args, .. }, _ => bindEnd X rest (bindRows (args.toList.map (ev X st)) st)
    | _, _ => bindEnd X rest st
def commOK (ops : Array Oper) (ok oi : Oper) : Bool :=
  ok.apart ops oi && match cls ok.op, cls oi.op with
  | .pure, _ => true
  | _, .pure => true
  | .read, .read => true
  | .read, .new => true
  | .new, .read => true
  | .new, .new => true
  | _, _ => false
def orderAt (ops : Array Oper) (clo : List Nat) (i : Nat) (oi : Oper) : List Oper → Nat → Bool
  | [], _ => true
  | ok :: rest, k => (decide (i ≤ k) || (((clo.getD i 0).testBit k || commOK ops ok oi) && (!makes ok.op || !makes oi.op || ok.dst.isNone || ok.dst != oi.dst))) && orderAt ops clo i oi rest (k + 1)
def z55 (ops : Array Oper) (clo : List Nat) : List Oper → Nat → Bool
  | [], _ => true
  | oi :: rest, i => oi.after.all (fun e => !Region.binds .any e || decide (e.on < i)) && (match oi.dst with | some d => decide (d < 10000) | none => true) && orderAt ops clo i oi ops.toList 0 && z55 ops clo rest (i + 1)
def orderOK (ops : Array Oper) : Bool := z55 ops (closL ops.toList []) ops.toList 0
def seqRd0 (o : Oper) : Bool := o.guard.isNone && o.dst.isSome && (match cls o.op with | .pure | .read => true | _ => false)
def freeOp : Op → Bool
  | .move _ | .assign _ | .load .. | .fieldAddr .. | .indexAddr .. | .field .. | .extract .. | .binOp .. | .unOp .. | .convert .. | .nilCheck _ => true
  | .call { callee := .builtin .len, .. } => true
  | _ => false
def seqFr0 (o : Oper) : Bool := seqRd0 o && freeOp o.op
def z3w (o : Oper) : Bool :=
  match o.op, o.dst, o.guard with
  | .call { callee := .value _, .. }, some _, none => true
  | .call { callee := .builtin .append, .. }, some _, none => true
  | .buildSlice .., some _, none => true
  | .makeSlice .., some _, none => true
  | .store .., none, none => true
  | _, _, _ => false
mutual
def D.solid : D → Bool
  | .any | .und => false
  | .fn _ cap => D.solidL cap
  | .agg cs => D.solidL cs
  | .tup vs => D.solidL vs
  | _ => true
def D.solidL : List D → Bool
  | [] => true
  | d :: ds => d.solid && D.solidL ds
end
def mvOp : Op → Bool
  | .move (.tmp _) | .move (.const _) | .assign (.tmp _) | .assign (.const _) => true
  | _ => false
def loadOKD (rows : Nat → Option Row) : D → Bool
  | .pim cells => (D.refsL cells).isEmpty
  | .pel r _ => (match rows r with | some ⟨_, .ints _ _⟩ | some ⟨_, .bools _⟩ | some ⟨_, .ints2 _ _⟩ => true | _ => false)
  | _ => true
def loadOKO (X : Ctx) (o : Oper) (st : St) : Bool := match o.op with
  | .load _ x => loadOKD st.rows (ev X st x)
  | _ => true
def rdRefs0 (X : Ctx) (o : Oper) (st : St) : Option (List Nat) :=
  if seqFr0 o && mvOp o.op then some [] else
  if seqFr0 o && D.solidL (o.op.operands.toList.map (ev X st)) && loadOKO X o st then some (D.refsL (o.op.operands.toList.map (ev X st))) else none
def z38 : D → Bool
  | .rsl q _ _ => !unbound q
  | .nsl q _ => !loose q
  | .rcs q _ _ => !unbound q
  | .nil .unk => true
  | .nil _ => false
  | _ => true
def touch (X : Ctx) (o : Oper) (st : St) : Option (List Nat) :=
  match o.op, o.dst with
  | .call { callee := .value g, args, .. }, some d => match ev X st g with
    | .fn _ cap => some (reach st.rows (args.toList.map (ev X st) ++ cap) ++ (List.range 40).map (xid d))
    | _ => none
  | .call { callee := .builtin .append, args, .. }, some d => match args.toList with
    | [x, y] => match ev X st x, ev X st y with
      | .nsl r _, .nsl s _ => some [r, s, nid d]
      | _, .nsl s _ => some [s, nid d]
      | .rsl r _ _, _ => some [r, nid d]
      | .rcs r _ _, .rcs q _ _ => some [r, q, nid d]
      | .rcs r _ _, _ => some [r, nid d]
      | _, .rcs q _ _ => some [q, nid d]
      | _, _ => some [nid d]
    | _ => none
  | .buildSlice _ _ parts, some d => some (nid d :: (parts.toList.map fun p => reach st.rows [ev X st p.2]).flatten)
  | .makeSlice .., some d => some [nid d]
  | .store _ ad x, none => match ev X st ad with
    | .ptr r _ => if (ev X st x).cells.all z38 then some [r] else none
    | .pel r _ => some (r :: reach st.rows [ev X st x])
    | .nep r _ _ => some [r]
    | .rpe r _ _ _ => some (r :: reach st.rows [ev X st x])
    | _ => none
  | _, _ => none
def disj : Option (List Nat) → Option (List Nat) → Bool
  | some l, some m => l.all fun r => !m.contains r
  | _, _ => false
structure SQ where
  st : St
  R : Nat → Option (Option (List Nat))
  T : Nat → Option (Option (List Nat))
def waitsB (clo : List Nat) (k i : Nat) : Bool := if k < i then (clo.getD i 0).testBit k else (clo.getD k 0).testBit i
def fits (clo : List Nat) (i : Nat) (x : Option (List Nat)) (f : Nat → Option (Option (List Nat))) : Nat → Bool
  | 0 => true
  | k + 1 => (waitsB clo k i || (match f k with | some y => disj x y | none => true)) && fits clo i x f k
def updQ (f : Nat → Option (Option (List Nat))) (i : Nat) (x : Option (List Nat)) : Nat → Option (Option (List Nat)) := fun k => if k = i then some x else f k
def isLit (X : Ctx) (ops : Array Oper) (o : Oper) : Bool :=
  o.guard.isNone && match o.op, o.dst with
    | .buildSlice t _ _, some d =>
      let app := fun (p : Oper) => match p.op with
        | .call { callee := .builtin .append, args, .. } => (match args.toList with
          | [x, .tmp y] => y == d && (match x with | .tmp z => z != d | _ => true)
          | _ => false)
        | _ => false
      (match elemOf X t with | some (e, _) => (match nkElem X e with | .ints _ => true | _ => false) | none => false) && ops.toList.any app && ops.toList.all fun p => !(p.looksAt ops).contains d || app p
    | _, _ => false
def litD (X : Ctx) (st : St) (o : Oper) : Option D :=
  match o.op with
  | .buildSlice t n parts => match elemOf X t with
    | some (e, ei) => if ei.size = 1 ∧ n ≤ 1000000 then match parts01 0 (parts.toList.map fun p => (p.1, ev X st p.2)) with
        | some ds => if ds.length = n then match nkElem X e with
            | .ints k => (intsD k ds).map (.immI k)
            | _ => none
          else none
        | none => none
      else none
    | none => none
  | _ => none
def quietL (X : Ctx) (ops : Array Oper) (st : St) (o : Oper) : Option D := if isLit X ops o then litD X st o else quietA X st o
def seqRd (X : Ctx) (ops : Array Oper) (o : Oper) : Bool := isLit X ops o || seqRd0 o
def seqFr (X : Ctx) (ops : Array Oper) (o : Oper) : Bool := isLit X ops o || seqFr0 o
def seqHard (X : Ctx) (ops : Array Oper) (o : Oper) : Bool := !isLit X ops o && z3w o
def rdRefs (X : Ctx) (ops : Array Oper) (o : Oper) (st : St) : Option (List Nat) := if isLit X ops o then (if (litD X st o).isSome then some [] else none) else rdRefs0 X o st
def gdOp : Op → Bool
  | .move _ | .load .. | .fieldAddr .. | .indexAddr .. => true
  | .call { callee := .builtin .len, .. } => true
  | _ => false
def seqGd (o : Oper) : Bool := o.guard.isSome && o.dst.isSome && gdOp o.op
def seqPair (X : Ctx) (ops : Array Oper) (ok oi : Oper) : Bool := ok.apart ops oi && ((seqRd X ops ok && seqRd X ops oi) || (seqFr X ops ok && seqHard X ops oi) || (seqHard X ops ok && seqFr X ops oi) || (seqGd ok && seqGd oi))
def seqAt (X : Ctx) (ops : Array Oper) (clo : List Nat) (i : Nat) (oi : Oper) : List Oper → Nat → Bool
  | [], _ => true
  | ok :: rest, k => (decide (i ≤ k) || (clo.getD i 0).testBit k || seqPair X ops ok oi) && seqAt X ops clo i oi rest (k + 1)
def seqAll (X : Ctx) (ops : Array Oper) (clo : List Nat) : List Oper → Nat → Bool
  | [], _ => true
  | oi :: rest, i => oi.after.all (fun e => !Region.binds .any e || decide (e.on < i)) &&
    seqAt X ops clo i oi ops.toList 0 && seqAll X ops clo rest (i + 1)
def seqOK (X : Ctx) (ops : Array Oper) : Bool := seqAll X ops (closL ops.toList []) ops.toList 0
def useSeq (X : Ctx) (ops : Array Oper) : Bool := !orderOK ops || ops.toList.any (fun o => X.nestPos o.pos || X.nilPos o.pos) || ops.toList.any fun o => match o.op with
  | .call { callee := .value (.func f), .. } => X.byref f
  | .makeSlice .. => true
  | .store t _ _ => (match X.tt t with | some i => i.agg || i.size != 1 | none => false)
  | _ => false
def stepQ (X : Ctx) (cl : FuncId → List D → List Row → Option Ret) (ops : Array Oper) (clo : List Nat) (i : Nat) (o : Oper) (s : SQ) : Option SQ :=
  if seqRd X ops o then
    (if fits clo i (rdRefs X ops o s.st) s.T ops.size then (quietL X ops ⟨keepEnv (o.looksAt ops) 0 s.st.env, s.st.rows⟩ o).map (fun d => ⟨s.st.setD o.dst d, updQ s.R i (rdRefs X ops o s.st), s.T⟩) else none)
  else if seqHard X ops o then
    (if fits clo i (touch X o s.st) s.R ops.size then (stepG X cl ops o s.st).map (fun st => ⟨st, s.R, updQ s.T i (touch X o s.st)⟩) else none)
  else (stepG X cl ops o s.st).map fun st => ⟨st, s.R, s.T⟩
def stepsQ (X : Ctx) (cl : FuncId → List D → List Row → Option Ret) (ops : Array Oper) (clo : List Nat) : List Oper → Nat → SQ → Option SQ
  | [], _, st => some st
  | o :: rest, k, st => match stepQ X cl ops clo k o st with
    | some s => stepsQ X cl ops clo rest (k + 1) s
    | none => none
def SQ.of (st : St) : SQ := ⟨st, fun _ => none, fun _ => none⟩
def drawO (X : Ctx) (cl : FuncId → List D → List Row → Option Ret) (ops : Array Oper) (st : St) : Option St :=
  if orderOK ops then (stepsD X cl ops (closL ops.toList []) ops.toList 0 (st.dropP (allP ops.toList))).map (bindEnd X ops.toList) else none
def seqD (X : Ctx) (cl : FuncId → List D → List Row → Option Ret) (ops : Array Oper) (st : St) : Option St :=
  if seqOK X ops then (stepsQ X cl ops (closL ops.toList []) ops.toList 0 (SQ.of st)).map fun s => bindEnd X ops.toList s.st else none
def drawD (X : Ctx) (cl : FuncId → List D → List Row → Option Ret) (ops : Array Oper) (st : St) : Option St :=
  if useSeq X ops then seqD X cl ops st else drawO X cl ops st
inductive Out where
  | normal (st : St) | exit (id : Nat) (st : St) | ret (st : St)
def z3e (X : Ctx) (cl : FuncId → List D → List Row → Option Ret) (ops : Array Oper) (draw : Bool) (st : St) : Option St :=
  if draw then drawD X cl ops st else stepsG X cl ops ops.toList st
def rowsOf : List (Nat × Row) → Nat → Option Row
  | [], _ => none
  | (j, r) :: l, i => if i = j then some r else rowsOf l i
def z13 (rows : Nat → Option Row) : List Nat → List (Nat × Row)
  | [] => []
  | i :: is => match rows i with
    | some r => (i, r) :: z13 rows is
    | none => z13 rows is
def St.keep (h : Option Hint) (st : St) : St :=
  match h with
  | some h => { env := keepEnv h.temps 0 st.env, rows := rowsOf (z13 st.rows (dedup (reach st.rows (keepEnv h.temps 0 st.env) ++ h.rows))) }
  | none => st
def St.keepOut (h : Option Hint) (st : St) : St :=
  match h with
  | some h => { env := keepEnv h.out 0 st.env, rows := rowsOf (z13 st.rows (dedup (reach st.rows (keepEnv h.out 0 st.env) ++ h.rows))) }
  | none => st
def Out.keep (h : Option Hint) : Out → Out
  | .normal st => .normal (st.keepOut h)
  | .exit i st => .exit i (st.keepOut h)
  | .ret st => .ret (st.keepOut h)
def zw (h : Option Hint) (body : St → Option Out) : Nat → St → Option Out
  | 0, _ => none
  | n + 1, st => match body (st.keep h) with
    | some (.normal s) => zw h body n s
    | some r => some (r.keep h)
    | none => none
def z4 (X : Ctx) (cl : FuncId → List D → List Row → Option Ret) (f : FuncId) (n : Nat) (bid : Nat) : Code → St → Option Out
  | .skip, st => some (.normal st)
  | .label _, st => some (.normal st)
  | .region _ ops draw, st => (z3e X cl ops draw st).map .normal
  | .seq a b, st => match z4 X cl f n bid a st with
    | some (.normal s) => z4 X cl f n bid b s
    | r => r
  | .cond c x y, st => match ev X st c with
    | .bool b => if b then z4 X cl f n bid x st else z4 X cl f n bid y st
    | _ => none
  | .block id body, st => match z4 X cl f n id body st with
    | some (.exit j s) => if j = id then some (.normal s) else some (.exit j s)
    | r => r
  | .loop body, st => zw (X.keep f bid) (z4 X cl f n bid body) n st
  | .exit id, st => some (.exit id st)
  | .ret, st => some (.ret st)
  | _, _ => none
def resD (X : Ctx) (st : St) : ResultVar → Option D
  | .tmp t => some (st.env.getD t .any)
  | .cell a t => match X.tt t with
    | some i => loadD i st.rows (st.env.getD a .any)
    | none => none
def outNo (E : List Nat) : Nat → Option Nat := fun r => match idx E r with
  | some j => some (XB + j)
  | none => if PB ≤ r ∧ r < XB then some r else none
def export_ (np : Nat) (st : St) (res : D) : Option Ret :=
  let pas := (List.range np).map (PB + ·)
  let own := reach st.rows [res]
  let more := (reach st.rows (pas.map fun i => .ptr i 0)).filter fun i => !(decide (PB ≤ i) && decide (i < XB)) && !own.contains i
  let E := own ++ more
  match mapO st.rows E with
  | some rows => if nodupB E then some { res := res.ren (outNo E), passed := pas.map fun i => if own.contains i then none else (st.rows i).map (·.ren (outNo E)), out := rows.map (·.ren (outNo E)) } else none
  | none => none
def oneOr (ds : List D) : D := match ds with | [d] => d | _ => .tup ds
def evalFn (X : Ctx) : Nat → FuncId → List D → List Row → Option Ret
  | 0, _, _, _ => none
  | k + 1, f, args, prows => match X.prim f args prows with
   | some r => some r
   | none => match X.ft f with
    | some fn => match fn.body with
      | some c => match z4 X (evalFn X k) f k 0 c (bindIn prows.length { env := args ++ List.replicate (fn.ntmps - args.length) .und, rows := rowsIn prows }) with
        | some (.ret st) | some (.normal st) => match mapO (resD X st) fn.results.toList with
          | some ds => export_ prows.length st (oneOr ds)
          | none => none
        | _ => none
      | none => none
    | none => none
end Go.PR

end

section
namespace Go.PR
open Go
section
variable {G : Nat → Option D} {F : Nat → Prop} {w0 w w' : World} {M0 : Entry} {M : Nat → Prop} {mu : Nat → Option Loc} {tmps : Array Value} {st : St}
theorem RowOK.block {id : Nat} {row : Row} (h : RowOK F w M mu id row) {b : Nat} (hb : InB (mu id) b) : b < w.heap.size ∧ (row.wr = true → M b ∧ F b) ∧ (row.wr = false → ¬ M b) := by
  obtain ⟨l, e, h⟩ := h
  rw [e] at hb
  cases l with
  | nowhere => simp [InB] at hb
  | at_ b' base size =>
    simp [InB] at hb; subst hb
    obtain ⟨cs, T, cv, h1, _, _, _, _, h6, h7⟩ := h
    exact ⟨(Array.getElem?_eq_some_iff.1 h1).1, h6, h7⟩
  | mapAt b' =>
    simp [InB] at hb; subst hb
    obtain ⟨arr, clock, h1, _, _, h6, h7⟩ := h
    exact ⟨(Array.getElem?_eq_some_iff.1 h1).1, h6, h7⟩
  | nest b' base size inn =>
    have hb' : b ∈ b' :: z5 inn := hb
    obtain ⟨cs, T, cv, fl, h1, h2, hfl, h3, h4, h5, h8, h6, h7⟩ := h
    refine ⟨?_, fun hw => h6 hw b hb', fun hw => h7 hw b hb'⟩
    rcases List.mem_cons.1 hb' with rfl | hx
    · exact (Array.getElem?_eq_some_iff.1 h1).1
    · exact h3.lt b hx
theorem SR.place (h : SR G F w0 M0 w M mu tmps st) (id : Nat) (hpin : ¬ Pinned id) (row : Row) (l : Loc) (hk : Keeps (fun x => InB (some l) x) w w')
    (hfree : ∀ b, InB (some l) b → (w.heap.size ≤ b ∧ b < w'.heap.size) ∨ (M b ∧ F b ∧ ∀ j rj, j ≠ id → st.rows j = some rj → rj.wr = true → ¬ InB (mu j) b))
    (hrow : ∀ (M' : Nat → Prop) (mu' : Nat → Option Loc), (∀ b, M' b ↔ M b ∨ (row.wr = true ∧ InB (some l) b)) → (∀ r, r ≠ id → mu' r = mu r) → mu' id = some l → RowOK F w' M' mu' id row) :
    ∃ M' mu', mu' id = some l ∧ (∀ r, r ≠ id → mu' r = mu r) ∧ (∀ b, M' b ↔ M b ∨ (row.wr = true ∧ InB (some l) b)) ∧ Keeps M w w' ∧ SR G F w0 M0 w' M' mu' tmps (st.newRow id row) := by
  have hkM : Keeps M w w' := hk.mono fun b hb he => by
    rcases hfree b he with h1 | h1
    · omega
    · exact h1.1
  have hkF : Keeps F w w' := hk.mono fun b hb he => by
    rcases hfree b he with h1 | h1
    · omega
    · exact h1.2.1
  let M' : Nat → Prop := fun b => M b ∨ (row.wr = true ∧ InB (some l) b)
  let mu' : Nat → Option Loc := fun r => if r = id then some l else mu r
  have hMm : ∀ b, b < w.heap.size → M' b → M b := fun b hb hm => by
    rcases hm with h1 | ⟨_, h2⟩
    · exact h1
    · rcases hfree b h2 with h1 | h1
      · omega
      · exact h1.1
  have hren : ∀ r i, killF id r = some i → mu' i = mu r := fun r i e => by
    simp only [killF] at e
    split at e
    · cases e
    · rename_i hne; cases e; simp [mu', hne]
  have own : ∀ k rk b, st.rows k = some rk → rk.wr = true → InB (mu k) b → b < w.heap.size ∧ M b := by
    intro k rk b hr hm hb
    obtain ⟨h1, h6, _⟩ := (h.rows k rk hr).block hb
    exact ⟨h1, (h6 hm).1⟩
  refine ⟨M', mu', by simp [mu'], fun r hr => by simp [mu', hr], fun b => Iff.rfl, hkM, ?_⟩
  refine { env := ?_, rows := ?_, apart := ?_, keeps := h.keeps.trans hkF, m1 := ?_, m2 := ?_, mlt := ?_, fr := h.fr, glob := ?_, pin := fun i hi => (show mu' i = mu i from if_neg (fun e : i = id => hpin (e ▸ hi))).trans (h.pin i hi) }
  · exact RepL.keeps hkM hMm (fun _ _ e => e) _ (RepL.ren hren _ h.env)
  · intro i r hr
    simp only [St.newRow, St.drop] at hr
    by_cases hi : i = id
    · simp only [hi, if_true] at hr
      cases hr
      rw [hi]
      exact hrow M' mu' (fun b => Iff.rfl) (fun r hr => by simp [mu', hr]) (by simp [mu'])
    · simp only [hi, if_false] at hr
      obtain ⟨r0, e0, rfl⟩ := Option.map_eq_some_iff.1 hr
      have h1 := (h.rows i r0 e0).ren (mu' := mu') (id' := i) hren (by simp [mu', hi])
      refine h1.keeps hkM hMm (fun _ _ e => e) fun b hb hm => ?_
      have hb' : InB (mu i) b := by simpa [mu', hi] using hb
      obtain ⟨o1, o2⟩ := own i r0 b e0 hm hb'
      refine ⟨hk.block b o1 fun he => ?_, .inl o2⟩
      rcases hfree b he with h2 | h2
      · omega
      · exact h2.2.2 i r0 hi e0 hm hb'
  · intro i j ri rj b hij hi hj mi mj bi bj
    simp only [St.newRow, St.drop] at hi hj
    by_cases hi0 : i = id
    · have hj0 : j ≠ id := fun e => hij (hi0.trans e.symm)
      simp only [hj0, if_false] at hj
      obtain ⟨r1, e1, rfl⟩ := Option.map_eq_some_iff.1 hj
      have bj' : InB (mu j) b := by simpa [mu', hj0] using bj
      have bi' : InB (some l) b := by simpa [mu', hi0] using bi
      have := own j r1 b e1 mj bj'
      rcases hfree b bi' with h2 | h2
      · omega
      · exact h2.2.2 j r1 hj0 e1 mj bj'
    · simp only [hi0, if_false] at hi
      obtain ⟨r0, e0, rfl⟩ := Option.map_eq_some_iff.1 hi
      have bi' : InB (mu i) b := by simpa [mu', hi0] using bi
      by_cases hj0 : j = id
      · have bj' : InB (some l) b := by simpa [mu', hj0] using bj
        have := own i r0 b e0 mi bi'
        rcases hfree b bj' with h2 | h2
        · omega
        · exact h2.2.2 i r0 hi0 e0 mi bi'
      · simp only [hj0, if_false] at hj
        obtain ⟨r1, e1, rfl⟩ := Option.map_eq_some_iff.1 hj
        have bj' : InB (mu j) b := by simpa [mu', hj0] using bj
        exact h.apart i j r0 r1 b hij e0 e1 mi mj bi' bj'
  · intro b hb hm
    exact h.m1 b hb (hMm b (Nat.lt_of_lt_of_le hb h.keeps.size) hm)
  · intro b hb hf; exact .inl (h.m2 b hb hf)
  · intro b hb
    rcases hb with h1 | ⟨_, h2⟩
    · exact Nat.lt_of_lt_of_le (h.mlt b h1) hk.size
    · rcases hfree b h2 with h3 | h3
      · exact h3.2
      · exact Nat.lt_of_lt_of_le (h.mlt b h3.1) hk.size
  · intro g d hg
    exact Rep.keeps hkM hMm (fun _ _ e => e) d (h.glob g d hg)
theorem SR.writeRow (h : SR G F w0 M0 w M mu tmps st) {r : Nat} {row : Row} (hr : st.rows r = some row) (hw : row.wr = true) {b : Nat} (hl : InB (mu r) b) (hk : Keeps (fun x => x = b) w w')
    {c' : Cont} (hrow : Keeps M w w' → RowOK F w' M mu r ⟨true, c'⟩) :
    SR G F w0 M0 w' M mu tmps (st.setRow r ⟨true, c'⟩) := by
  obtain ⟨_, h6, _⟩ := (h.rows r row hr).block hl
  obtain ⟨hMb, hFb⟩ := h6 hw
  have hkM : Keeps M w w' := hk.mono fun x hx e => e ▸ hMb
  have hkF : Keeps F w w' := hk.mono fun x hx e => e ▸ hFb
  refine { env := RepL.keeps hkM (fun _ _ h => h) (fun _ _ h => h) _ h.env, rows := ?_, apart := ?_, keeps := h.keeps.trans hkF, m1 := h.m1, m2 := h.m2, mlt := fun x hx => Nat.lt_of_lt_of_le (h.mlt x hx) hk.size, fr := h.fr, glob := fun g d hg => Rep.keeps hkM (fun _ _ h => h) (fun _ _ h => h) d (h.glob g d hg), pin := h.pin }
  · intro i ri hi
    simp only [St.setRow] at hi
    by_cases hir : i = r
    · simp only [hir, if_true] at hi
      cases hi
      rw [hir]
      exact hrow hkM
    · simp only [hir, if_false] at hi
      refine (h.rows i ri hi).keeps hkM (fun _ _ h => h) (fun _ _ h => h) fun b' hb' hm => ?_
      obtain ⟨g1, g6, _⟩ := (h.rows i ri hi).block hb'
      refine ⟨hk.block b' g1 fun e => ?_, (g6 hm).1⟩
      subst e
      exact h.apart i r ri row b' hir hi hr hm hw hb' hl
  · intro i j ri rj x hij hi hj mi mj bi bj
    simp only [St.setRow] at hi hj
    by_cases hir : i = r
    · simp only [hir, if_true] at hi
      have hjr : j ≠ r := fun e => hij (hir.trans e.symm)
      simp only [hjr, if_false] at hj
      exact h.apart r j row rj x (fun e => hjr e.symm) hr hj hw mj (by rw [← hir]; exact bi) bj
    · simp only [hir, if_false] at hi
      by_cases hjr : j = r
      · exact h.apart i r ri row x hir hi hr mi hw bi (by rw [← hjr]; exact bj)
      · simp only [hjr, if_false] at hj
        exact h.apart i j ri rj x hij hi hj mi mj bi bj
theorem SR.write (h : SR G F w0 M0 w M mu tmps st) {r : Nat} {row : Row} (hr : st.rows r = some row) (hw : row.wr = true) {b base size : Nat} (hl : mu r = some (.at_ b base size)) (hk : Keeps (fun x => x = b) w w')
    {c' : Cont} {cv' : List Value} {cs' : Array Value} {T : TypeId} (hc : ContRep w M mu c' cv') (hb : w'.heap[b]? = some (.cells cs' T (0, 0))) (hs : base + size = cs'.size) (hle : cv'.length ≤ size) (hcs : ∀ j, j < cv'.length → cs'[base + j]? = cv'[j]?) :
    SR G F w0 M0 w' M mu tmps (st.setRow r ⟨true, c'⟩) :=
  have hbl : InB (mu r) b := by rw [hl]; rfl
  h.writeRow hr hw hbl hk fun hkM => ⟨_, hl, cs', T, cv', hb, hs, hc.keeps hkM (fun _ _ h => h) (fun _ _ h => h), hle, hcs, fun _ => ((h.rows r row hr).block hbl).2.1 hw, fun hf => Bool.noConfusion hf⟩
theorem SR.writeMap (h : SR G F w0 M0 w M mu tmps st) {r : Nat} {row : Row} (hr : st.rows r = some row) (hw : row.wr = true) {b : Nat} (hl : mu r = some (.mapAt b)) (hk : Keeps (fun x => x = b) w w')
    {kk : MK} {vk : MV} {es : List MEnt} {arr : Array MapEntry} {clock : Nat} (hb : w'.heap[b]? = some (.map arr clock)) (hm : MapRep (.mp kk vk es) arr) :
    SR G F w0 M0 w' M mu tmps (st.setRow r ⟨true, .mp kk vk es⟩) :=
  have hbl : InB (mu r) b := by rw [hl]; rfl
  h.writeRow hr hw hbl hk fun hkM => ⟨_, hl, arr, clock, hb, hm, rfl, fun _ => ((h.rows r row hr).block hbl).2.1 hw, fun hf => Bool.noConfusion hf⟩
theorem zay (id j : Nat) : ¬ Pinned (home id j) := by unfold Pinned home PB XB; omega
theorem nid_pin (t : Nat) : ¬ Pinned (nid t) := by unfold Pinned nid PB XB; omega
theorem xid_pin (t i : Nat) : ¬ Pinned (xid t i) := by unfold Pinned xid PB XB; omega
theorem SR.alloc (h : SR G F w0 M0 w M mu tmps st) (id : Nat) (hpin : ¬ Pinned id) (c : Cont) (cs : Array Value) (T : TypeId) (cv : List Value) (hw : Keeps (fun _ => False) w w') (hb : w'.heap[w.heap.size]? = some (.cells cs T (0, 0)))
    (hc : ∀ mu', (∀ r, r ≠ id → mu' r = mu r) → ContRep w M mu' c cv) (hl : cv.length ≤ cs.size) (hcs : ∀ j, j < cv.length → cs[j]? = cv[j]?) :
    ∃ M' mu', mu' id = some (.at_ w.heap.size 0 cs.size) ∧ SR G F w0 M0 w' M' mu' tmps (st.newRow id ⟨true, c⟩) ∧ ∀ r, r ≠ id → mu' r = mu r := by
  have hlt : w.heap.size < w'.heap.size := (Array.getElem?_eq_some_iff.1 hb).1
  obtain ⟨M', mu', e1, e2, e3, _, h3⟩ := h.place id hpin ⟨true, c⟩ (.at_ w.heap.size 0 cs.size) (hw.mono fun _ _ h => h.elim) (fun b hb' => .inl (by simp [InB] at hb'; omega))
    (fun M' mu' hM hu hid => ⟨_, hid, cs, T, cv, hb, by simp, ContRep.keeps (hw.mono fun _ _ h => h.elim) (fun b hb' hm => by
      rcases (hM b).1 hm with h2 | ⟨_, h2⟩
      · exact h2
      · simp [InB] at h2; omega) (fun _ _ e => e) (hc mu' hu), hl, by simpa using hcs, fun _ => ⟨(hM _).2 (.inr ⟨rfl, rfl⟩), h.fr _ h.keeps.size⟩, fun hf => Bool.noConfusion hf⟩)
  exact ⟨M', mu', e1, h3, e2⟩
theorem SR.allocMap (h : SR G F w0 M0 w M mu tmps st) (id : Nat) (hpin : ¬ Pinned id) (kk : MK) (vk : MV) :
    ∃ M' mu', mu' id = some (.mapAt w.heap.size) ∧ SR G F w0 M0 (w.alloc (.map #[] 0)) M' mu' tmps (st.newRow id ⟨true, .mp kk vk []⟩) ∧ ∀ r, r ≠ id → mu' r = mu r := by
  have hb := zy w (.map #[] 0)
  have hlt : w.heap.size < (w.alloc (.map #[] 0)).heap.size := (Array.getElem?_eq_some_iff.1 hb).1
  obtain ⟨M', mu', e1, e2, e3, _, h3⟩ := h.place id hpin ⟨true, .mp kk vk []⟩ (.mapAt w.heap.size) (Keeps.alloc _ w _) (fun b hb' => .inl (by simp [InB] at hb'; omega))
    (fun M' mu' hM hu hid => ⟨_, hid, #[], 0, hb, rfl, rfl, fun _ => ⟨(hM _).2 (.inr ⟨rfl, rfl⟩), h.fr _ h.keeps.size⟩, fun hf => Bool.noConfusion hf⟩)
  exact ⟨M', mu', e1, h3, e2⟩
theorem SR.forget (h : SR G F w0 M0 w M mu tmps st) (r : Nat) : SR G F w0 M0 w M mu tmps (st.forget r) :=
  { h with
    rows := fun i row hr => by
      simp only [St.forget] at hr
      split at hr
      · cases hr
      · exact h.rows i row hr
    apart := fun i j ri rj b hij hi hj => by
      simp only [St.forget] at hi hj
      split at hi
      · cases hi
      · split at hj
        · cases hj
        · exact h.apart i j ri rj b hij hi hj }
theorem SR.move (h : SR G F w0 M0 w M mu tmps st) {p q : Nat} (hne : p ≠ q) (hpin : ¬ Pinned q) : ∃ mu', SR G F w0 M0 w M mu' tmps (st.move p q) := by
  let mu' : Nat → Option Loc := fun i => if i = q then mu p else mu i
  have hren : ∀ r i, mvF p q r = some i → mu' i = mu r := fun r i e => by
    simp only [mvF] at e
    split at e
    · rename_i hr; cases e; simp [mu', hr]
    · split at e
      · cases e
      · rename_i h1 h2; cases e; simp [mu', h2]
  refine ⟨mu', ?_⟩
  have rowsAt : ∀ i ri, (st.move p q).rows i = some ri → ∃ j rj, st.rows j = some rj ∧ ri = rj.ren (mvF p q) ∧ mu' i = mu j ∧ (i = q → j = p) ∧ (i ≠ q → j = i ∧ i ≠ p) := by
    intro i ri hi
    simp only [St.move] at hi
    by_cases hiq : i = q
    · simp only [hiq, if_true] at hi
      obtain ⟨r0, e0, rfl⟩ := Option.map_eq_some_iff.1 hi
      exact ⟨p, r0, e0, rfl, by simp [mu', hiq], fun _ => rfl, fun hn => absurd hiq hn⟩
    · simp only [hiq, if_false] at hi
      by_cases hip : i = p
      · simp [hip] at hi
      · simp only [hip, if_false] at hi
        obtain ⟨r0, e0, rfl⟩ := Option.map_eq_some_iff.1 hi
        exact ⟨i, r0, e0, rfl, by simp [mu', hiq], fun e => absurd e hiq, fun _ => ⟨rfl, hip⟩⟩
  exact
  { h with
    pin := fun i hi => by
      have : i ≠ q := fun e => hpin (e ▸ hi)
      simp only [mu', this, if_false]
      exact h.pin i hi
    env := RepL.ren hren _ h.env
    rows := fun i ri hi => by
      obtain ⟨j, rj, e, rfl, hm, _⟩ := rowsAt i ri hi
      exact (h.rows j rj e).ren hren hm
    apart := fun i j ri rj b hij hi hj mi mj bi bj => by
      obtain ⟨i', ri', e1, rfl, m1, q1, n1⟩ := rowsAt i ri hi
      obtain ⟨j', rj', e2, rfl, m2, q2, n2⟩ := rowsAt j rj hj
      refine h.apart i' j' ri' rj' b ?_ e1 e2 mi mj (by rw [← m1]; exact bi) (by rw [← m2]; exact bj)
      intro e
      by_cases h1 : i = q
      · by_cases h2 : j = q
        · exact hij (h1.trans h2.symm)
        · have := (n2 h2).2; rw [q1 h1] at e; exact this ((n2 h2).1 ▸ e.symm)
      · by_cases h2 : j = q
        · have := (n1 h1).2; rw [q2 h2] at e; exact this ((n1 h1).1 ▸ e)
        · rw [(n1 h1).1, (n2 h2).1] at e; exact hij e }
theorem SR.push (h : SR G F w0 M0 w M mu tmps st) {ds : List D} {vs : List Value} (hr : RepL w M mu ds vs) : SR G F w0 M0 w M mu (tmps ++ vs.toArray) (st.push ds) :=
  { h with env := by simpa [St.push] using RepL.append h.env hr }
theorem SR.set (h : SR G F w0 M0 w M mu tmps st) (i : Nat) {d : D} (hd : Rep w M mu d (tmps.getD i undef)) : SR G F w0 M0 w M mu tmps { st with env := st.env.set i d } := by
  have h1 := h.put hd i
  by_cases hi : i < tmps.size
  · have e : tmps.setIfInBounds i (tmps.getD i undef) = tmps := by
      apply Array.ext
      · simp
      · intro j h1 h2
        rw [Array.getElem_setIfInBounds]
        split
        · rename_i hij; subst hij; simp [Array.getD_eq_getD_getElem?, h2]
        · rfl
    rwa [e] at h1
  · have e : tmps.setIfInBounds i (tmps.getD i undef) = tmps := by
      simp [Array.setIfInBounds, hi]
    rwa [e] at h1
theorem zal {k : NK} {c : Cont} (h : emptyC k = some c) : ContRep w M mu c [] ∧ c.len = 0 ∧ c.isVar = false := by
  cases k <;> simp [emptyC] at h <;> subst h <;> simp [ContRep, intsV, boolsV, All2, RepL, Cont.len, Cont.isVar]
theorem zfq {k : NK} {c : Cont} (h : emptyN k = some c) : ContRep w M mu c [] := by
  cases k with
  | nest k => simp only [emptyN] at h; cases h; rfl
  | recs sh => simp only [emptyN] at h; cases h; rfl
  | _ => exact (zal (by simpa only [emptyN] using h)).1
theorem zfp {hm : Nat} {A : Option Addr} (c : Cont) (h : mu hm = some .nowhere) : Rep w M mu (emptyD hm c) (.slice A 0 0) := by
  cases c <;> simp only [emptyD, Rep] <;> exact ⟨_, h, rfl, A, rfl⟩
theorem SR.bindAt (h : SR G F w0 M0 w M mu tmps st) (k : NK) (i hm : Nat) (hpin : ¬ Pinned hm) : ∃ mu', SR G F w0 M0 w M mu' tmps (bindAt k i hm st) := by
  unfold Go.PR.bindAt
  split
  · rename_i r n e
    split
    · rename_i hc
      simp only [Bool.and_eq_true, bne_iff_ne] at hc
      exact h.move hc.2 hpin
    · exact ⟨mu, h⟩
  · rename_i r n e
    split
    · rename_i hc
      simp only [Bool.and_eq_true, bne_iff_ne] at hc
      exact h.move hc.2 hpin
    · exact ⟨mu, h⟩
  · rename_i r sz n e
    split
    · rename_i hc
      simp only [Bool.and_eq_true, bne_iff_ne] at hc
      exact h.move hc.2 hpin
    · exact ⟨mu, h⟩
  · rename_i k' e
    split
    · rename_i c hc
      have hv := h.get i
      rw [e] at hv
      simp only [Rep] at hv
      obtain ⟨A, hv, _⟩ := hv
      obtain ⟨M', mu', e1, e2, e3, _, h1⟩ := h.place (w' := w) hm hpin ⟨true, c⟩ .nowhere (Keeps.refl _ _) (fun b hb => by simp [InB] at hb)
        (fun M' mu' _ _ hid => ⟨_, hid, zfq hc⟩)
      have hM : M' = M := by funext b; simp [e3, InB]
      rw [hM] at h1
      exact ⟨mu', h1.set i (by rw [hv]; exact zfp c e1)⟩
    · exact ⟨mu, h⟩
  · exact ⟨mu, h⟩
theorem zg6 (r off : Nat) : ¬ Pinned (home r off) := fun hh => by
  have := hh.2
  unfold home XB at this
  omega
theorem SR.bindN (h : SR G F w0 M0 w M mu tmps st) (r off : Nat) : ∃ mu', SR G F w0 M0 w M mu' tmps (bindN r off st) := by
  unfold Go.PR.bindN
  split
  case h_2 => exact ⟨mu, h⟩
  split
  case h_2 => exact ⟨mu, h⟩
  split
  case isFalse => exact ⟨mu, h⟩
  rename_i hc
  simp only [Bool.and_eq_true, bne_iff_ne] at hc
  exact h.move hc.2 (zg6 r off)
theorem SR.bindNs (r : Nat) : ∀ (n : Nat) {mu : Nat → Option Loc} {st : St}, SR G F w0 M0 w M mu tmps st → ∃ mu', SR G F w0 M0 w M mu' tmps (bindNs r n st)
  | 0, mu, st, h => ⟨mu, h⟩
  | n + 1, mu, st, h => by
    obtain ⟨mu1, h1⟩ := SR.bindNs r n h
    exact h1.bindN r n
theorem SR.bindRow (h : SR G F w0 M0 w M mu tmps st) (d : D) : ∃ mu', SR G F w0 M0 w M mu' tmps (bindRow d st) := by
  unfold Go.PR.bindRow
  split
  case h_2 => exact ⟨mu, h⟩
  split
  case h_2 => exact ⟨mu, h⟩
  exact SR.bindNs _ _ h
theorem SR.bindRows : ∀ (ds : List D) {mu : Nat → Option Loc} {st : St}, SR G F w0 M0 w M mu tmps st → ∃ mu', SR G F w0 M0 w M mu' tmps (bindRows ds st)
  | [], mu, st, h => ⟨mu, h⟩
  | d :: ds, mu, st, h => by
    obtain ⟨mu1, h1⟩ := h.bindRow d
    exact SR.bindRows ds h1
theorem SR.bindAll (hm : Nat → Nat) (hpin : ∀ j, ¬ Pinned (hm j)) : ∀ (n i j : Nat) {mu : Nat → Option Loc} {st : St}, SR G F w0 M0 w M mu tmps st → ∃ mu', SR G F w0 M0 w M mu' tmps (bindAll hm n i j st)
  | 0, i, j, mu, st, h => ⟨mu, h⟩
  | n + 1, i, j, mu, st, h => by
    obtain ⟨mu1, h1⟩ := h.bindAt .unk i (hm j) (hpin j)
    exact SR.bindAll hm hpin n (i + 1) (j + 1) h1
theorem SR.cut {vs : List Value} (h : SR G F w0 M0 w M mu (tmps ++ vs.toArray) st) {n : Nat} (hn : n = tmps.size) : SR G F w0 M0 w M mu tmps { st with env := st.env.take n } ∧ RepL w M mu (st.env.drop n) vs := by
  have he := h.env
  simp at he
  refine ⟨{ h with env := ?_ }, ?_⟩
  · have := he.take n
    rw [hn] at this
    simpa [hn] using this
  · have := he.drop n
    rw [hn] at this
    simpa [hn] using this
end
end Go.PR

end

section
namespace Go.PR
open Go
theorem z8y {w : World} {b : Nat} {cs : Array Value} {T : TypeId} {fr : Nat × Nat} (h : w.heap[b]? = some (.cells cs T fr)) (o : Nat) (v : Value) : (w.setCell ⟨b, o, none⟩ v).heap[b]? = some (.cells (cs.setIfInBounds o v) T fr) := by
  have hlt : b < w.heap.size := (Array.getElem?_eq_some_iff.1 h).1
  simp only [World.setCell, Array.getElem?_modify, h]
  simp
theorem z8z (w : World) (a : Addr) (v : Value) : Keeps (fun x => x = a.block) w (w.setCell a v) :=
  ⟨rfl, rfl, rfl, by simp [World.setCell], fun b _ hn => Go.RowKit.Below.heap_setCell _ _ _ _ hn⟩
theorem z1p (b : Nat) : ∀ (vs : List Value) (o : Nat) (w : World), Keeps (fun x => x = b) w (w.setCells b o vs)
  | [], _, w => Keeps.refl _ w
  | v :: vs, o, w => (z8z w ⟨b, o, none⟩ v).trans (z1p b vs (o + 1) _)
theorem z2a (b : Nat) {T : TypeId} {fr : Nat × Nat} : ∀ (vs : List Value) (o : Nat) (w : World) (cs : Array Value), w.heap[b]? = some (.cells cs T fr) → o + vs.length ≤ cs.size →
    ∃ cs', (w.setCells b o vs).heap[b]? = some (.cells cs' T fr) ∧ cs'.size = cs.size ∧ (∀ j, j < vs.length → cs'[o + j]? = vs[j]?) ∧ (∀ k, k < o ∨ o + vs.length ≤ k → cs'[k]? = cs[k]?)
  | [], o, w, cs, h, _ => ⟨cs, h, rfl, by simp, fun _ _ => rfl⟩
  | v :: vs, o, w, cs, h, hl => by
    simp only [List.length_cons] at hl
    obtain ⟨cs', h1, h2, h3, h4⟩ := z2a b vs (o + 1) _ _ (z8y h o v) (by simp; omega)
    refine ⟨cs', h1, by simpa using h2, fun j hj => ?_, fun k hk => ?_⟩
    · cases j with
      | zero =>
        rw [h4 (o + 0) (by omega), Nat.add_zero, Array.getElem?_setIfInBounds, if_pos rfl, if_pos (by omega)]
        rfl
      | succ j =>
        have := h3 j (by simpa using hj)
        rw [show o + 1 + j = o + (j + 1) by omega] at this
        rw [this]; simp
    · rw [h4 k (by simp at hk; omega)]
      simp only [List.length_cons] at hk
      rw [Array.getElem?_setIfInBounds, if_neg (by omega)]
section
variable {P : Program} {X : Ctx} {G : Nat → Option D} {F : Nat → Prop} {w0 w w' : World} {M0 : Entry} {M : Nat → Prop} {mu : Nat → Option Loc} {tmps : Array Value} {a : Act} {st : St}
theorem SR.box (h : SR G F w0 M0 w M mu tmps st) (id : Nat) (hpin : ¬ Pinned id) {cells : List D} {cv : List Value} (hr : RepL w M mu cells cv) (h1 : ∀ u ∈ cv, u.oneCell' = true) {T : TypeId} (hk : Keeps (fun _ => False) w w') (hb : w'.heap[w.heap.size]? = some (.cells cv.toArray T (0, 0))) :
    ∃ M' mu', mu' id = some (.at_ w.heap.size 0 cv.length) ∧ SR G F w0 M0 w' M' mu' tmps (boxRow id cells st) := by
  obtain ⟨mu1, g1⟩ := SR.bindAll (home id) (zay id) cells.length st.env.length 0 (h.push hr)
  have hlen : st.env.length = tmps.size := by have := h.env.length; simpa using this
  obtain ⟨g2, g3⟩ := g1.cut hlen
  have hlt : w.heap.size < w'.heap.size := (Array.getElem?_eq_some_iff.1 hb).1
  unfold boxRow
  generalize Go.PR.bindAll (home id) cells.length st.env.length 0 (st.push cells) = s at *
  obtain ⟨M', mu', e1, e2, e3, _, g4⟩ := g2.place (w' := w') id hpin ⟨true, .var (D.renL (killF id) (s.env.drop st.env.length))⟩ (.at_ w.heap.size 0 cv.length) (hk.mono fun _ _ h => h.elim)
    (fun b hb' => .inl (by simp [InB] at hb'; omega))
    (fun M' mu' hM hmu hid => by
      refine ⟨_, hid, cv.toArray, T, cv, hb, by simp, ⟨?_, h1⟩, Nat.le_refl _, fun j hj => by simp, fun _ => ⟨(hM _).2 (.inr ⟨rfl, rfl⟩), h.fr _ h.keeps.size⟩, fun hf => Bool.noConfusion hf⟩
      refine RepL.keeps (hk.mono fun _ _ h => h.elim) (fun b hb' hm => ?_) (fun _ _ e => e) _ (RepL.ren (mu' := mu') ?_ _ g3)
      · rcases (hM b).1 hm with h2 | ⟨_, h2⟩
        · exact h2
        · simp [InB] at h2; omega
      · intro r i e
        simp only [killF] at e
        split at e
        · cases e
        · rename_i hne; cases e; exact hmu _ hne)
  exact ⟨M', mu', e1, g4⟩
theorem z90 {cs : List Value} : ∀ (us : List Value) (off : Nat), off + us.length ≤ cs.length → ∀ j, ((us.zipIdx.foldl (fun (c : Array Value) (p : Value × Nat) => c.setIfInBounds (off + p.2) p.1) cs.toArray).toList)[j]? = if off ≤ j ∧ j < off + us.length then us[j - off]? else cs[j]? := by
  intro us
  induction us generalizing cs with
  | nil => intro off _ j; simp; intro h1 h2; omega
  | cons u us ih =>
    intro off hl j
    simp only [List.length_cons] at hl
    have sh : ∀ (us : List Value) (k : Nat) (arr : Array Value), (us.zipIdx (k + 1)).foldl (fun (cs : Array Value) (p : Value × Nat) => cs.setIfInBounds (off + p.2) p.1) arr = (us.zipIdx k).foldl (fun (cs : Array Value) (p : Value × Nat) => cs.setIfInBounds (off + 1 + p.2) p.1) arr := by
      intro us
      induction us with
      | nil => intro k arr; rfl
      | cons x xs ihx =>
        intro k arr
        simp only [List.zipIdx_cons, List.foldl_cons]
        rw [ihx (k + 1)]
        congr 2
        omega
    simp only [List.zipIdx_cons, List.foldl_cons, Nat.add_zero, Nat.zero_add]
    rw [sh us 0]
    have := ih (cs := cs.set off u) (off + 1) (by simp; omega) j
    rw [show (cs.toArray.setIfInBounds off u) = (cs.set off u).toArray by simp]
    rw [this]
    by_cases h1 : off + 1 ≤ j ∧ j < off + 1 + us.length
    · rw [if_pos h1, if_pos (by simp; omega)]
      obtain ⟨q, rfl⟩ : ∃ q, j = off + 1 + q := ⟨j - (off + 1), by omega⟩
      rw [show off + 1 + q - off = q + 1 by omega, show off + 1 + q - (off + 1) = q by omega]
      simp
    · rw [if_neg h1]
      by_cases h2 : j = off
      · subst h2
        rw [if_pos (by simp), Nat.sub_self, List.getElem?_set_self (by omega)]
        rfl
      · rw [if_neg (by simp; omega)]
        rw [List.getElem?_set_ne (fun e => h2 e.symm)]
theorem ContRep.setVar {old : List D} {cv : List Value} (h : ContRep w M mu (.var old) cv) {cells : List D} {us : List Value} (hu : RepL w M mu cells us) (h1 : ∀ u ∈ us, u.oneCell' = true) {off : Nat} (hl : off + us.length ≤ cv.length) :
    ∃ cv', ContRep w M mu (.var (setCells old off cells)) cv' ∧ cv'.length = cv.length ∧ ∀ j, cv'[j]? = if off ≤ j ∧ j < off + us.length then us[j - off]? else cv[j]? := by
  obtain ⟨cv', g1, g2, g3⟩ := z91 h.1 off hu
  have hj := z90 (cs := cv) us off hl
  rw [g3] at hj
  refine ⟨cv', ⟨g1, fun u hu' => ?_⟩, g2, hj⟩
  obtain ⟨j, hj'⟩ := List.getElem?_of_mem hu'
  rw [hj j] at hj'
  split at hj'
  · exact h1 u (List.mem_of_getElem? hj')
  · exact h.2 u (List.mem_of_getElem? hj')
theorem SR.rowAt (h : SR G F w0 M0 w M mu tmps st) {r : Nat} {row : Row} (hr : st.rows r = some row) (hw : row.wr = true) {b base size : Nat} (hl : mu r = some (.at_ b base size)) :
    ∃ cs T cv, w.heap[b]? = some (.cells cs T (0, 0)) ∧ base + size = cs.size ∧ ContRep w M mu row.c cv ∧ cv.length ≤ size ∧ (∀ j, j < cv.length → cs[base + j]? = cv[j]?) := by
  obtain ⟨l, e, hh⟩ := h.rows r row hr
  rw [hl] at e
  cases e
  obtain ⟨cs, T, cv, h1, h2, h3, h4, h5, _⟩ := hh
  exact ⟨cs, T, cv, h1, h2, h3, h4, h5⟩
theorem z1x {w : World} {b : Nat} {cs : Array Value} {T : TypeId} (h : w.heap[b]? = some (.cells cs T (0, 0))) (o : Nat) (sp : Option Nat) : w.frozen? ⟨b, o, sp⟩ = false := by
  simp [World.frozen?, h]
theorem z1v {w : World} {b : Nat} {cs : Array Value} {T : TypeId} {fr : Nat × Nat} (h : w.heap[b]? = some (.cells cs T fr)) {o : Nat} (ho : o < cs.size) : (w.cell? ⟨b, o, none⟩).isSome = true := by
  simp [World.cell?, h, ho]
theorem SR.storeVar (hX : XOK P X) (h : SR G F w0 M0 w M mu tmps st) {t : TypeId} {i : TI} (ht : X.tt t = some i) {r off : Nat} {d : D} {u v : Value} (hu : Rep w M mu (.ptr r off) u) (hv : Rep w M mu d v) (hkn : d.known = true) (hsz : d.cells.length = i.size) (hone : ∀ x ∈ v.cells.toList, x.oneCell' = true)
    {st' : St} (hs : z2u r off d.cells st = some st') : ∃ w' mu', (Instr.storeAt t u v).run P w = .ok () w' ∧ SR G F w0 M0 w' M mu' tmps st' := by
  have hc := z44 hv hkn
  have hlen : st.env.length = tmps.size := by have := h.env.length; simpa using this
  have hvs : v.cells.toList.length = d.cells.length := hc.length.symm
  have hp : RepL w M mu (d.cells ++ [.ptr r off]) (v.cells.toList ++ [u]) := RepL.append hc (by simp only [RepL]; exact ⟨hu, trivial⟩)
  obtain ⟨mu1, g1⟩ := SR.bindAll (fun j => home r (off + j)) (fun j => zay _ _) d.cells.length st.env.length 0 (h.push hp)
  obtain ⟨g2, g3⟩ := g1.cut hlen
  unfold z2u at hs
  dsimp only at hs
  generalize Go.PR.bindAll (fun j => home r (off + j)) d.cells.length st.env.length 0 (st.push (d.cells ++ [.ptr r off])) = s at *
  split at hs
  case h_2 => cases hs
  rename_i r' off' he
  split at hs
  case h_2 => cases hs
  rename_i old hrow
  split at hs
  case isFalse => cases hs
  rename_i hle
  cases hs
  have hg3t : RepL w M mu1 ((s.env.drop st.env.length).take d.cells.length) v.cells.toList := by
    have := g3.take d.cells.length
    rwa [show (v.cells.toList ++ [u]).take d.cells.length = v.cells.toList from by rw [← hvs]; simp] at this
  -- the address
  have hat := g1.get (st.env.length + d.cells.length)
  rw [he] at hat
  have hun : (tmps ++ (v.cells.toList ++ [u]).toArray).getD (st.env.length + d.cells.length) undef = u := by
    rw [Array.getD_eq_getD_getElem?, Array.getElem?_append_right (by omega)]
    simp [hlen, ← hvs]
  rw [hun] at hat
  simp only [Rep] at hat
  obtain ⟨l, hl, hcell⟩ := hat
  cases l with
  | nowhere => simp [Loc.cell] at hcell
  | mapAt b => simp [Loc.cell] at hcell
  | nest => simp [Loc.cell] at hcell
  | at_ b base size =>
    simp only [Loc.cell] at hcell
    subst hcell
    obtain ⟨cs, T, cv, k1, k2, k3, k4, k5⟩ := g1.rowAt hrow rfl hl
    have hcvl := k3.len
    simp only [Cont.len] at hcvl
    obtain ⟨cv', e1, e2, e3⟩ := k3.setVar hg3t hone (off := off') (by omega)
    obtain ⟨cs', f1, f2, f3, f4⟩ := z2a b v.cells.toList (base + off') w cs k1 (by omega)
    refine ⟨_, mu1, ?_, g2.write (row := ⟨true, .var old⟩) hrow rfl hl (z1p b v.cells.toList (base + off') w) e1 f1 (by omega) (by omega) ?_⟩
    · have hst := run_storeCells_cells (P := P) b (base + off') v.cells.toList 0 w (fun j hj => z1v k1 (by omega)) (fun j hj => z1x k1 _ _) hone
      have hsz' : v.cells.size = i.size := by rw [← hsz, ← hvs]; simp
      simp only [Nat.add_zero] at hst
      simp [Instr.storeAt, Instr.sureAddr, Go.storeVar, za hX ht, hsz', hst]
    · intro j hj
      rw [e3 j]
      by_cases hin : off' ≤ j ∧ j < off' + v.cells.toList.length
      · rw [if_pos hin]
        have := f3 (j - off') (by omega)
        rw [show base + off' + (j - off') = base + j by omega] at this
        exact this
      · rw [if_neg hin, f4 (base + j) (by omega)]
        exact k5 j (by omega)
end
end Go.PR
namespace Go.PR
open Go
section
variable {P : Program} {X : Ctx} {G : Nat → Option D} {F : Nat → Prop} {w0 w w' : World} {M0 : Entry} {M : Nat → Prop} {mu : Nat → Option Loc} {tmps : Array Value} {st : St}
theorem z26 (i : In1) (is : List In1) : z5 (i :: is) = (match i with | some p => [p.1] | none => []) ++ z5 is := by
  cases i <;> simp [z5]
theorem NestV.write {w w' : World} {b' base' size' : Nat} {c' : NC} (hk : ∀ b, b ≠ b' → w'.heap[b]? = w.heap[b]?) : ∀ {inn : List In1} {fl : List NC} {cv : List Value} {j : Nat}, NestV w inn fl cv → (z5 inn).Nodup →
    inn[j]? = some (some (b', base', size')) → (∀ c v, fl[j]? = some c → cv[j]? = some v → NCRep w' (some (b', base', size')) c' v) → NestV w' inn (fl.set j c') cv
  | [], [], [], j, _, _, hi, _ => by simp at hi
  | i :: is, c :: cs, v :: vs, 0, h, hn, hi, hc => by
    simp only [List.getElem?_cons_zero, Option.some.injEq] at hi
    subst hi
    refine ⟨hc c v rfl rfl, NestV.keeps (fun b hb => hk b ?_) h.2⟩
    rintro rfl
    rw [z26] at hn
    simp only [List.cons_append, List.nil_append, List.nodup_cons] at hn
    exact hn.1 hb
  | i :: is, c :: cs, v :: vs, j + 1, h, hn, hi, hc => by
    simp only [List.getElem?_cons_succ] at hi
    have hmem : b' ∈ z5 is := zq.2 ⟨_, List.mem_of_getElem? hi, rfl⟩
    rw [z26] at hn
    refine ⟨h.1.keeps fun b e => hk b ?_, NestV.write hk h.2 (List.nodup_append.1 hn).2.1 hi fun c v e1 e2 => hc c v (by simpa using e1) (by simpa using e2)⟩
    rintro rfl
    cases i with
    | none => cases e
    | some p =>
      have e : p.1 = b := by simpa using e
      simp only [List.cons_append, List.nil_append, List.nodup_cons] at hn
      exact hn.1 (e ▸ hmem)
  | [], [], _ :: _, _, h, _, _, _ => h.elim
  | [], _ :: _, [], _, h, _, _, _ => h.elim
  | [], _ :: _, _ :: _, _, h, _, _, _ => h.elim
  | _ :: _, [], [], _, h, _, _, _ => h.elim
  | _ :: _, [], _ :: _, _, h, _, _, _ => h.elim
  | _ :: _, _ :: _, [], _, h, _, _, _ => h.elim
theorem SR.storeNep (hX : XOK P X) (h : SR G F w0 M0 w M mu tmps st) {t : TypeId} {i : TI} (ht : X.tt t = some i) (hsz : i.size = 1) {r j q : Nat} {u : Value} {k : IntKind} {x : Int} {xss : List (List Int)} (hu : Rep w M mu (.nep r j q) u)
    (hrow : st.rows r = some ⟨true, .nest k xss⟩) (hj : j < xss.length) (hq : q < (xss.getD j []).length) :
    ∃ w', (Instr.storeAt t u (.int k x)).run P w = .ok () w' ∧ SR G F w0 M0 w' M mu tmps (st.setRow r ⟨true, .nest k (xss.set j ((xss.getD j []).set q x))⟩) := by
  simp only [Rep] at hu
  obtain ⟨l, hl, hv⟩ := hu
  obtain ⟨l', e, hh⟩ := h.rows r _ hrow
  rw [hl] at e
  obtain rfl := Option.some.inj e
  cases l with
  | nest b base size inn =>
    obtain ⟨cs, T, cv, fl, h1, h2, hfl, h3, h4, h5, h8, h6, h7⟩ := hh
    cases hfl
    have hx : xss[j]? = some (xss.getD j []) := by rw [List.getD_eq_getElem?_getD, List.getElem?_eq_getElem hj]; rfl
    obtain ⟨i0, v0, hi, hv0, hc⟩ := h3.at j (.row k (xss.getD j [])) (by simp only [List.getElem?_map, hx, Option.map_some])
    simp only [Loc.icell, hi] at hv
    cases i0 with
    | none => exact absurd hv id
    | some p =>
      obtain ⟨b', base', size'⟩ := p
      have hv : u = .pointer (some ⟨b', base' + q, none⟩) := hv
      subst hv
      obtain ⟨cs', T', g1, g2, g3, g4, g5⟩ := hc
      generalize hxs : xss.getD j [] = xs at *
      have hb' : b' ∈ b :: z5 inn := List.mem_cons_of_mem _ (zq.2 ⟨_, List.mem_of_getElem? hi, rfl⟩)
      have hbb : b ≠ b' := by
        rintro rfl
        exact (List.nodup_cons.1 h8).1 (zq.2 ⟨_, List.mem_of_getElem? hi, rfl⟩)
      have hone : ∀ y ∈ [Value.int k x], y.oneCell' = true := by intro y hy; rw [List.mem_singleton] at hy; subst hy; rfl
      have hst := run_storeCells_cells (P := P) b' (base' + q) [Value.int k x] 0 w (fun j hj => z1v g1 (by simp at hj; omega)) (fun j hj => z1x g1 _ _) hone
      obtain ⟨cs2, f1, f2, f3, f4⟩ := z2a b' [Value.int k x] (base' + q) w cs' g1 (by simp; omega)
      have hkp := z1p b' [Value.int k x] (base' + q) w
      refine ⟨w.setCells b' (base' + q) [Value.int k x], ?_, h.writeRow hrow rfl (b := b') (by rw [hl]; exact hb') hkp fun hkM => ⟨_, hl, ?_⟩⟩
      · simp only [Nat.add_zero] at hst
        have hc1 : (Value.int k x).cells = #[.int k x] := rfl
        simp [Instr.storeAt, Instr.sureAddr, Go.storeVar, za hX ht, hsz, hc1, hst]
      · have hsame : ∀ y, y ≠ b' → (w.setCells b' (base' + q) [Value.int k x]).heap[y]? = w.heap[y]? := fun y hy => by
          by_cases hlt : y < w.heap.size
          · exact hkp.block y hlt hy
          · have e1 := hkp.size
            have hs : (w.setCells b' (base' + q) [Value.int k x]).heap.size = w.heap.size := by
              simp only [World.setCells, World.setCell, Array.size_modify]
            rw [Array.getElem?_eq_none (by omega), Array.getElem?_eq_none (by omega)]
        refine ⟨cs, T, cv, _, (hsame b hbb).trans h1, h2, rfl, ?_, h4, h5, h8, h6, fun hf => by cases hf⟩
        rw [List.map_set]
        refine NestV.write hsame h3 (List.nodup_cons.1 h8).2 hi fun c v e1 e2 => ?_
        rw [hv0] at e2
        cases e2
        refine ⟨cs2, T', f1, by omega, by simpa using g3, by simpa using g4, fun y hy => ?_⟩
        simp only [List.length_set] at hy
        by_cases hyq : y = q
        · subst hyq
          have := f3 0 (by simp)
          simp only [Nat.add_zero] at this
          rw [this]
          simp [intsV, List.getElem?_set, hq]
        · rw [f4 (base' + y) (by simp; omega), g5 y hy]
          simp only [intsV, List.map_set]
          rw [List.getElem?_set_ne (by omega)]
  | _ => exact absurd hv id
end
end Go.PR

end

section
namespace Go.PR
open Go
section
variable {P : Program} {X : Ctx} {G : Nat → Option D} {F : Nat → Prop} {w0 w w' : World} {M0 : Entry} {M : Nat → Prop} {mu : Nat → Option Loc} {tmps : Array Value} {st : St}
theorem SR.nestAt (h : SR G F w0 M0 w M mu tmps st) (id : Nat) (hpin : ¬ Pinned id) {k : IntKind} {xss : List (List Int)} {inn : List In1} {b base size : Nat} {cs : Array Value} {T : TypeId} {cv : List Value}
    (hk : Keeps (fun x => x = b) w w') (hb : w'.heap[b]? = some (.cells cs T (0, 0))) (hs : base + size = cs.size) (hn : NestV w' inn (xss.map (.row k)) cv) (hle : cv.length ≤ size) (hcs : ∀ j, j < cv.length → cs[base + j]? = cv[j]?)
    (hnd : (b :: z5 inn).Nodup)
    (hfree : ∀ x, x ∈ b :: z5 inn → (w.heap.size ≤ x ∧ x < w'.heap.size) ∨ (M x ∧ F x ∧ ∀ j rj, j ≠ id → st.rows j = some rj → rj.wr = true → ¬ InB (mu j) x)) :
    ∃ M' mu', mu' id = some (.nest b base size inn) ∧ (∀ r, r ≠ id → mu' r = mu r) ∧ SR G F w0 M0 w' M' mu' tmps (st.newRow id ⟨true, .nest k xss⟩) := by
  obtain ⟨M', mu', e1, e2, e3, _, h3⟩ := h.place id hpin ⟨true, .nest k xss⟩ (.nest b base size inn) (hk.mono fun x _ e => by subst e; exact List.mem_cons_self) hfree
    (fun M' mu' hM hu hid => ⟨_, hid, cs, T, cv, _, hb, hs, rfl, hn, hle, hcs, hnd, fun _ x hx => ⟨(hM x).2 (.inr ⟨rfl, hx⟩), by
      rcases hfree x hx with h1 | h1
      · exact h.fr x (Nat.le_trans h.keeps.size h1.1)
      · exact h1.2.1⟩, fun hf => by cases hf⟩)
  exact ⟨M', mu', e1, e2, h3⟩
theorem SR.rowNC (h : SR G F w0 M0 w M mu tmps st) {s : Nat} {wr : Bool} {k : IntKind} {xs : List Int} (hs : st.rows s = some ⟨wr, .ints k xs⟩) {v : Value} (hv : Rep w M mu (.rsl s 0 xs.length) v) :
    ∃ i, NCRep w i (.row k xs) v ∧ ∀ b, i.map (·.1) = some b → InB (mu s) b := by
  simp only [Rep] at hv
  obtain ⟨l, hl, hv⟩ := hv
  obtain ⟨l', e, hh⟩ := h.rows s _ hs
  rw [hl] at e
  obtain rfl := Option.some.inj e
  cases l with
  | nowhere => obtain ⟨h0, A, rfl⟩ := hv; exact ⟨none, ⟨List.length_eq_zero_iff.1 h0, A, rfl⟩, fun b e => by cases e⟩
  | at_ b base size =>
    obtain ⟨cs, T, cv, h1, h2, h3, h4, h5, h6, h7⟩ := hh
    have h3 : cv = intsV k xs := h3
    subst h3
    have hlen : (intsV k xs).length = xs.length := by simp [intsV]
    rcases hv with ⟨h0, _, A, rfl⟩ | ⟨c, rfl, hc, hsz⟩
    · exact ⟨none, ⟨List.length_eq_zero_iff.1 h0, A, rfl⟩, fun b e => by cases e⟩
    · obtain rfl : c = size := by omega
      refine ⟨some (b, base, c), ⟨cs, T, h1, h2, hc, rfl, fun j hj => h5 j (by omega)⟩, fun b' e => ?_⟩
      cases e
      rw [hl]; rfl
  | mapAt b => exact hv.elim
  | nest => exact hv.elim
theorem SR.nestGather (h : SR G F w0 M0 w M mu tmps st) {id : Nat} (hpin : ¬ Pinned id) (dd : List Nat) {st2 : St} (h2 : SR G F w0 M0 w M mu tmps st2)
    (hst2 : ∀ j rj, st2.rows j = some rj → rj.wr = true → ∃ r0, st.rows j = some r0 ∧ r0.wr = true ∧ j ∉ dd)
    {k : IntKind} {xss : List (List Int)} {inn : List In1} {cv : List Value} (hnv : NestV w inn (xss.map (.row k)) cv) (hnd : (z5 inn).Nodup)
    (hsrc : ∀ x ∈ z5 inn, ∃ q rq, q ∈ dd ∧ st.rows q = some rq ∧ rq.wr = true ∧ InB (mu q) x)
    {b base size : Nat} (hbo : (w.heap.size ≤ b ∧ b < w'.heap.size) ∨ (b ∉ z5 inn ∧ ∃ q rq, q ∈ dd ∧ st.rows q = some rq ∧ rq.wr = true ∧ InB (mu q) b))
    {cs : Array Value} {T : TypeId} (hk : Keeps (fun x => x = b) w w') (hb : w'.heap[b]? = some (.cells cs T (0, 0))) (hsz : base + size = cs.size) (hle : cv.length ≤ size) (hcs : ∀ j, j < cv.length → cs[base + j]? = cv[j]?) :
    ∃ M' mu', mu' id = some (.nest b base size inn) ∧ (∀ r, r ≠ id → mu' r = mu r) ∧ SR G F w0 M0 w' M' mu' tmps (st2.newRow id ⟨true, .nest k xss⟩) := by
  have own : ∀ x, (∃ q rq, q ∈ dd ∧ st.rows q = some rq ∧ rq.wr = true ∧ InB (mu q) x) → M x ∧ F x ∧ ∀ j rj, j ≠ id → st2.rows j = some rj → rj.wr = true → ¬ InB (mu j) x := by
    rintro x ⟨q, rq, hq, hrq, hwq, hx⟩
    obtain ⟨_, g2, _⟩ := (h.rows q rq hrq).block hx
    refine ⟨(g2 hwq).1, (g2 hwq).2, fun j rj _ hj hw hh => ?_⟩
    obtain ⟨r0, e0, hw0, n1⟩ := hst2 j rj hj hw
    exact h.apart q j _ _ x (fun e => n1 (e ▸ hq)) hrq e0 hwq hw0 hx hh
  have lt : ∀ x ∈ z5 inn, x < w.heap.size := fun x hx => hnv.lt x hx
  have hb0 : b ∉ z5 inn := fun hx => by
    rcases hbo with h1 | h1
    · have := lt b hx; omega
    · exact h1.1 hx
  refine h2.nestAt (w' := w') id hpin hk hb hsz (hnv.keeps fun x hx => hk.block x (lt x hx) fun e => hb0 (e ▸ hx)) hle hcs (List.nodup_cons.2 ⟨hb0, hnd⟩) fun x hx => ?_
  rcases List.mem_cons.1 hx with rfl | hx
  · rcases hbo with h1 | h1
    · exact .inl h1
    · exact .inr (own _ h1.2)
  · exact .inr (own x (hsrc x hx))
theorem drop_wr {s : Nat} {j : Nat} {rj : Row} (hj : (st.drop s).rows j = some rj) (hw : rj.wr = true) : ∃ r0, st.rows j = some r0 ∧ r0.wr = true ∧ j ≠ s := by
  simp only [St.drop] at hj
  split at hj
  · cases hj
  · rename_i h1
    obtain ⟨r1, e1, rfl⟩ := Option.map_eq_some_iff.1 hj
    exact ⟨r1, e1, hw, h1⟩
theorem SR.nestOne (h : SR G F w0 M0 w M mu tmps st) {s id : Nat} (hpin : ¬ Pinned id) {k : IntKind} {xs : List Int} (hs : st.rows s = some ⟨true, .ints k xs⟩) {v : Value} (hv : Rep w M mu (.rsl s 0 xs.length) v)
    {cs : Array Value} {T : TypeId} (hw : Keeps (fun _ => False) w w') (hb : w'.heap[w.heap.size]? = some (.cells cs T (0, 0))) (hc : 0 < cs.size) (hcs : cs[0]? = some v) :
    ∃ M' mu' inn, mu' id = some (.nest w.heap.size 0 cs.size inn) ∧ (∀ r, r ≠ id → mu' r = mu r) ∧ SR G F w0 M0 w' M' mu' tmps ((st.drop s).newRow id ⟨true, .nest k [xs]⟩) := by
  obtain ⟨i, hi, hib⟩ := h.rowNC hs hv
  have hlt : w.heap.size < w'.heap.size := (Array.getElem?_eq_some_iff.1 hb).1
  obtain ⟨M', mu', e1, e2, h3⟩ := h.nestGather (w' := w') hpin [s] (h.drop s) (fun j rj hj hw => by
    obtain ⟨r0, g1, g2, g3⟩ := drop_wr hj hw
    exact ⟨r0, g1, g2, by simpa using g3⟩) (k := k) (xss := [xs]) (inn := [i]) (cv := [v]) ⟨hi, trivial⟩ (by cases i <;> simp [z5])
    (fun x hx => ⟨s, _, by simp, hs, rfl, hib x (by
      obtain ⟨o, ho, e⟩ := zq.1 hx
      rw [List.mem_singleton] at ho; subst ho; exact e)⟩) (b := w.heap.size) (base := 0) (size := cs.size) (.inl ⟨Nat.le_refl _, hlt⟩) (hw.mono fun _ _ h => h.elim) hb (by omega) (by simp; omega) (fun j hj => by
      obtain rfl : j = 0 := by simpa using hj
      simpa using hcs)
  exact ⟨M', mu', _, e1, e2, h3⟩
theorem SR.nestCells (h : SR G F w0 M0 w M mu tmps st) {r : Nat} {wr : Bool} {k : IntKind} {xss : List (List Int)} (hr : st.rows r = some ⟨wr, .nest k xss⟩) {b base size : Nat} {inn : List In1} (hl : mu r = some (.nest b base size inn)) :
    ∃ cs T cv, w.heap[b]? = some (.cells cs T (0, 0)) ∧ base + size = cs.size ∧ NestV w inn (xss.map (.row k)) cv ∧ cv.length = xss.length ∧ cv.length ≤ size ∧ (∀ j, j < cv.length → cs[base + j]? = cv[j]?) ∧ (b :: z5 inn).Nodup := by
  obtain ⟨l', e, hh⟩ := h.rows r _ hr
  rw [hl] at e
  obtain rfl := Option.some.inj e
  obtain ⟨cs, T, cv, fl, h1, h2, hfl, h3, h4, h5, h8, _⟩ := hh
  cases hfl
  exact ⟨cs, T, cv, h1, h2, h3, by have := h3.len.2; simpa using this, h4, h5, h8⟩
theorem NestV.append {w : World} : ∀ {inn inn2 : List In1} {fl fl2 : List NC} {cv cv2 : List Value}, NestV w inn fl cv → NestV w inn2 fl2 cv2 → NestV w (inn ++ inn2) (fl ++ fl2) (cv ++ cv2)
  | [], _, [], _, [], _, _, h => h
  | _ :: _, _, _ :: _, _, _ :: _, _, h, h2 => ⟨h.1, NestV.append h.2 h2⟩
  | [], _, [], _, _ :: _, _, h, _ => h.elim
  | [], _, _ :: _, _, [], _, h, _ => h.elim
  | [], _, _ :: _, _, _ :: _, _, h, _ => h.elim
  | _ :: _, _, [], _, [], _, h, _ => h.elim
  | _ :: _, _, [], _, _ :: _, _, h, _ => h.elim
  | _ :: _, _, _ :: _, _, [], _, h, _ => h.elim
theorem z7u (a b : List In1) : z5 (a ++ b) = z5 a ++ z5 b := by simp [z5]
theorem SR.nestJoin (h : SR G F w0 M0 w M mu tmps st) {r s id : Nat} (hpin : ¬ Pinned id) (hrs : r ≠ s) {k : IntKind} {xss yss : List (List Int)} (hr : st.rows r = some ⟨true, .nest k xss⟩) (hs : st.rows s = some ⟨true, .nest k yss⟩)
    {b1 base1 size1 b2 base2 size2 : Nat} {inn1 inn2 : List In1} (hl1 : mu r = some (.nest b1 base1 size1 inn1)) (hl2 : mu s = some (.nest b2 base2 size2 inn2))
    {cv1 cv2 : List Value} (hn1 : NestV w inn1 (xss.map (.row k)) cv1) (hn2 : NestV w inn2 (yss.map (.row k)) cv2)
    {b base size : Nat} (hbo : (w.heap.size ≤ b ∧ b < w'.heap.size) ∨ b = b1) {cs : Array Value} {T : TypeId} (hk : Keeps (fun x => x = b) w w') (hb : w'.heap[b]? = some (.cells cs T (0, 0))) (hsz : base + size = cs.size)
    (hle : (cv1 ++ cv2).length ≤ size) (hcs : ∀ j, j < (cv1 ++ cv2).length → cs[base + j]? = (cv1 ++ cv2)[j]?) :
    ∃ M' mu', mu' id = some (.nest b base size (inn1 ++ inn2)) ∧ (∀ q, q ≠ id → mu' q = mu q) ∧ SR G F w0 M0 w' M' mu' tmps (((st.drop s).drop r).newRow id ⟨true, .nest k (xss ++ yss)⟩) := by
  obtain ⟨_, _, _, _, _, _, _, _, _, hd1⟩ := h.nestCells hr hl1
  obtain ⟨_, _, _, _, _, _, _, _, _, hd2⟩ := h.nestCells hs hl2
  have in1 : ∀ x, x ∈ b1 :: z5 inn1 → InB (mu r) x := fun x hx => by rw [hl1]; exact hx
  have in2 : ∀ x, x ∈ b2 :: z5 inn2 → InB (mu s) x := fun x hx => by rw [hl2]; exact hx
  have sep : ∀ x, InB (mu r) x → ¬ InB (mu s) x := fun x h1 h2 => h.apart r s _ _ x hrs hr hs rfl rfl h1 h2
  refine h.nestGather (w' := w') hpin [r, s] ((h.drop s).drop r) (fun j rj hj hw => ?_) (by rw [List.map_append]; exact hn1.append hn2) ?_ (fun x hx => ?_) ?_ hk hb hsz hle hcs
  · obtain ⟨r0, g1, g2, g3⟩ := drop_wr hj hw
    obtain ⟨r1, f1, f2, f3⟩ := drop_wr g1 g2
    exact ⟨r1, f1, f2, by simp [g3, f3]⟩
  · rw [z7u]
    refine List.nodup_append.2 ⟨(List.nodup_cons.1 hd1).2, (List.nodup_cons.1 hd2).2, fun x hx y hy e => ?_⟩
    subst e
    exact sep x (in1 x (List.mem_cons_of_mem _ hx)) (in2 x (List.mem_cons_of_mem _ hy))
  · rw [z7u] at hx
    rcases List.mem_append.1 hx with hx | hx
    · exact ⟨r, _, by simp, hr, rfl, in1 x (List.mem_cons_of_mem _ hx)⟩
    · exact ⟨s, _, by simp, hs, rfl, in2 x (List.mem_cons_of_mem _ hx)⟩
  · rcases hbo with h1 | rfl
    · exact .inl h1
    · refine .inr ⟨fun hx => ?_, r, _, by simp, hr, rfl, in1 _ List.mem_cons_self⟩
      rw [z7u] at hx
      rcases List.mem_append.1 hx with hx | hx
      · exact (List.nodup_cons.1 hd1).1 hx
      · exact sep _ (in1 _ List.mem_cons_self) (in2 _ (List.mem_cons_of_mem _ hx))
mutual
def D.noIn (r : Nat) : D → Bool
  | .nel q _ _ => q != r
  | .nep q _ _ => q != r
  | .fn _ cap => D.noInL r cap
  | .agg cs => D.noInL r cs
  | .tup vs => D.noInL r vs
  | _ => true
def D.noInL (r : Nat) : List D → Bool
  | [] => true
  | d :: ds => d.noIn r && D.noInL r ds
end
mutual
theorem Rep.renest {mu' : Nat → Option Loc} {r b base size : Nat} {inn inn' : List In1} (hne : ∀ q, q ≠ r → mu' q = mu q) (hr : mu r = some (.nest b base size inn)) (hr' : mu' r = some (.nest b base size inn')) :
    ∀ (d : D) (v : Value), d.noIn r = true → Rep w M mu d v → Rep w M mu' d v
  | .any, _, _, _ => by simp only [Rep]
  | .und, _, _, h => by simpa only [Rep] using h
  | .nil _, _, _, h => by simpa only [Rep] using h
  | .bool _, _, _, h => by simpa only [Rep] using h
  | .int _ _, _, _, h => by simpa only [Rep] using h
  | .str _, _, _, h => by simpa only [Rep] using h
  | .immI _ _, _, _, h => by simpa only [Rep] using h
  | .immB _, _, _, h => by simpa only [Rep] using h
  | .imm2 _ _, _, _, h => by simpa only [Rep] using h
  | .immG _, _, _, h => by simpa only [Rep] using h
  | .immR _ _, _, _, h => by simpa only [Rep] using h
  | .pim _, _, _, h => by simpa only [Rep] using h
  | .fn g cap, v, hn, h => by
    simp only [D.noIn] at hn
    simp only [Rep] at h ⊢
    obtain ⟨cv, e, h⟩ := h
    exact ⟨cv, e, RepL.renest hne hr hr' cap cv hn h⟩
  | .agg cs, v, hn, h => by
    simp only [D.noIn] at hn
    simp only [Rep] at h ⊢
    obtain ⟨cv, e, h⟩ := h
    exact ⟨cv, e, RepL.renest hne hr hr' cs cv hn h⟩
  | .tup vs, v, hn, h => by
    simp only [D.noIn] at hn
    simp only [Rep] at h ⊢
    obtain ⟨cv, e, h⟩ := h
    exact ⟨cv, e, RepL.renest hne hr hr' vs cv hn h⟩
  | .ptr q o, v, hn, h => by
    simp only [Rep] at h ⊢
    obtain ⟨l, e, h⟩ := h
    by_cases hq : q = r
    · subst hq
      rw [hr] at e
      obtain rfl := Option.some.inj e
      exact absurd h id
    · exact ⟨l, (hne q hq).trans e, h⟩
  | .pel q o, v, hn, h => by
    simp only [Rep] at h ⊢
    obtain ⟨l, e, h⟩ := h
    by_cases hq : q = r
    · subst hq
      rw [hr] at e
      obtain rfl := Option.some.inj e
      exact absurd h id
    · exact ⟨l, (hne q hq).trans e, h⟩
  | .rsl q o n, v, hn, h => by
    simp only [Rep] at h ⊢
    obtain ⟨l, e, h⟩ := h
    by_cases hq : q = r
    · subst hq
      rw [hr] at e
      obtain rfl := Option.some.inj e
      exact absurd h id
    · exact ⟨l, (hne q hq).trans e, h⟩
  | .rcs q o n, v, hn, h => by
    simp only [Rep] at h ⊢
    obtain ⟨l, e, h⟩ := h
    by_cases hq : q = r
    · subst hq
      rw [hr] at e
      obtain rfl := Option.some.inj e
      exact absurd h id
    · exact ⟨l, (hne q hq).trans e, h⟩
  | .rpe q o n m, v, hn, h => by
    simp only [Rep] at h ⊢
    obtain ⟨l, e, h⟩ := h
    by_cases hq : q = r
    · subst hq
      rw [hr] at e
      obtain rfl := Option.some.inj e
      exact absurd h id
    · exact ⟨l, (hne q hq).trans e, h⟩
  | .nsl q n, v, hn, h => by
    simp only [Rep] at h ⊢
    obtain ⟨l, e, h⟩ := h
    by_cases hq : q = r
    · subst hq
      rw [hr] at e
      obtain rfl := Option.some.inj e
      exact ⟨_, hr', h⟩
    · exact ⟨l, (hne q hq).trans e, h⟩
  | .npe q j, v, hn, h => by
    simp only [Rep] at h ⊢
    obtain ⟨l, e, h⟩ := h
    by_cases hq : q = r
    · subst hq
      rw [hr] at e
      obtain rfl := Option.some.inj e
      exact ⟨_, hr', h⟩
    · exact ⟨l, (hne q hq).trans e, h⟩
  | .nel q j n, v, hn, h => by
    simp only [Rep] at h ⊢
    obtain ⟨l, e, h⟩ := h
    by_cases hq : q = r
    · subst hq
      rw [hr] at e
      obtain rfl := Option.some.inj e
      simp [D.noIn] at hn
    · exact ⟨l, (hne q hq).trans e, h⟩
  | .nep q j i, v, hn, h => by
    simp only [Rep] at h ⊢
    obtain ⟨l, e, h⟩ := h
    by_cases hq : q = r
    · subst hq
      rw [hr] at e
      obtain rfl := Option.some.inj e
      simp [D.noIn] at hn
    · exact ⟨l, (hne q hq).trans e, h⟩
  | .mpr q, v, hn, h => by
    simp only [Rep] at h ⊢
    obtain ⟨b', e, h⟩ := h
    by_cases hq : q = r
    · subst hq
      rw [hr] at e
      cases e
    · exact ⟨b', (hne q hq).trans e, h⟩
theorem RepL.renest {mu' : Nat → Option Loc} {r b base size : Nat} {inn inn' : List In1} (hne : ∀ q, q ≠ r → mu' q = mu q) (hr : mu r = some (.nest b base size inn)) (hr' : mu' r = some (.nest b base size inn')) :
    ∀ (ds : List D) (vs : List Value), D.noInL r ds = true → RepL w M mu ds vs → RepL w M mu' ds vs
  | [], [], _, h => by simp only [RepL]
  | [], _ :: _, _, h => by simp only [RepL] at h
  | _ :: _, [], _, h => by simp only [RepL] at h
  | d :: ds, v :: vs, hn, h => by
    simp only [D.noInL, Bool.and_eq_true] at hn
    simp only [RepL] at h ⊢
    exact ⟨Rep.renest hne hr hr' d v hn.1 h.1, RepL.renest hne hr hr' ds vs hn.2 h.2⟩
end
theorem SR.renest (h : SR G F w0 M0 w M mu tmps st) {r : Nat} (hpin : ¬ Pinned r) (hr0 : st.rows r = none) {b base size : Nat} {inn inn' : List In1} (hl : mu r = some (.nest b base size inn))
    (henv : D.noInL r st.env = true) (hrows : ∀ q row cells, st.rows q = some row → row.c = .var cells → D.noInL r cells = true) :
    SR G F w0 M0 w M (fun q => if q = r then some (.nest b base size inn') else mu q) tmps st := by
  have hne : ∀ q, q ≠ r → (fun q => if q = r then some (Loc.nest b base size inn') else mu q) q = mu q := fun q hq => if_neg hq
  have hr' : (fun q => if q = r then some (Loc.nest b base size inn') else mu q) r = some (.nest b base size inn') := if_pos rfl
  have hnr : ∀ q row, st.rows q = some row → q ≠ r := fun q row hq e => by rw [e, hr0] at hq; cases hq
  have hcont : ∀ q row cv, st.rows q = some row → ContRep w M mu row.c cv → ContRep w M (fun q => if q = r then some (Loc.nest b base size inn') else mu q) row.c cv := by
    intro q row cv hq hc
    cases e : row.c with
    | var cells =>
      rw [e] at hc
      exact ⟨RepL.renest hne hl hr' cells cv (hrows q row cells hq e) hc.1, hc.2⟩
    | _ => rw [e] at hc; exact hc
  refine { h with env := RepL.renest hne hl hr' _ _ henv h.env, rows := fun q row hq => ?_, apart := fun i j ri rj x hij hi hj mi mj bi bj => ?_, pin := fun i hi => (hne i fun e => hpin (e ▸ hi)).trans (h.pin i hi) }
  · obtain ⟨l, e, hh⟩ := h.rows q row hq
    refine ⟨l, (hne q (hnr q row hq)).trans e, ?_⟩
    cases l with
    | nowhere => exact hcont q row _ hq hh
    | at_ b' base' size' =>
      obtain ⟨cs, T, cv, h1, h2, h3, h4⟩ := hh
      exact ⟨cs, T, cv, h1, h2, hcont q row cv hq h3, h4⟩
    | mapAt b' =>
      obtain ⟨arr, clock, h1, h2, h3, h4⟩ := hh
      exact ⟨arr, clock, h1, h2, hcont q row _ hq h3, h4⟩
    | nest b' base' size' inn0 => exact hh
  · rw [if_neg (hnr i ri hi)] at bi
    rw [if_neg (hnr j rj hj)] at bj
    exact h.apart i j ri rj x hij hi hj mi mj bi bj
theorem NestV.put {w : World} {i0 : In1} {c : NC} {v : Value} (hc : NCRep w i0 c v) : ∀ {inn : List In1} {fl : List NC} {cv : List Value} (j : Nat), NestV w inn fl cv → NestV w (inn.set j i0) (fl.set j c) (cv.set j v)
  | [], [], [], _, _ => trivial
  | _ :: _, _ :: _, _ :: _, 0, h => ⟨hc, h.2⟩
  | _ :: _, _ :: _, _ :: _, j + 1, h => ⟨h.1, NestV.put hc j h.2⟩
  | [], [], _ :: _, _, h => h.elim
  | [], _ :: _, [], _, h => h.elim
  | [], _ :: _, _ :: _, _, h => h.elim
  | _ :: _, [], [], _, h => h.elim
  | _ :: _, [], _ :: _, _, h => h.elim
  | _ :: _, _ :: _, [], _, h => h.elim
theorem zba {i0 : In1} : ∀ {inn : List In1} (j : Nat), (z5 inn).Nodup → (∀ x, i0.map (·.1) = some x → x ∉ z5 inn) → (z5 (inn.set j i0)).Nodup
  | [], _, h, _ => h
  | i :: is, 0, h, hx => by
    rw [z26] at h
    have h2 := (List.nodup_append.1 h).2.1
    rw [List.set_cons_zero, z26]
    cases i0 with
    | none => simpa using h2
    | some p =>
      have := hx p.1 rfl
      rw [z26] at this
      simp only [List.cons_append, List.nil_append]
      exact List.nodup_cons.2 ⟨fun hm => this (List.mem_append.2 (.inr hm)), h2⟩
  | i :: is, j + 1, h, hx => by
    rw [z26] at h
    have h2 := (List.nodup_append.1 h).2.1
    have hx2 : ∀ x, i0.map (·.1) = some x → x ∉ z5 is := fun x e hm => hx x e (by rw [z26]; exact List.mem_append.2 (.inr hm))
    have ih := zba j h2 hx2
    rw [List.set_cons_succ, z26]
    cases i with
    | none => simpa using ih
    | some p =>
      simp only [List.cons_append, List.nil_append] at h ⊢
      refine List.nodup_cons.2 ⟨fun hm => ?_, ih⟩
      obtain ⟨o, ho, e⟩ := zq.1 hm
      rcases List.mem_or_eq_of_mem_set ho with ho | rfl
      · exact (List.nodup_cons.1 h).1 (zq.2 ⟨o, ho, e⟩)
      · exact hx p.1 e (by rw [z26]; simp)
theorem SR.nestSet (h : SR G F w0 M0 w M mu tmps st) {r s j : Nat} (hpin : ¬ Pinned r) (hrs : r ≠ s) {k : IntKind} {xss : List (List Int)} {xs : List Int} (hr : st.rows r = some ⟨true, .nest k xss⟩) (hs : st.rows s = some ⟨true, .ints k xs⟩)
    {b base size : Nat} {inn : List In1} (hl : mu r = some (.nest b base size inn)) {v : Value} (hv : Rep w M mu (.rsl s 0 xs.length) v) (hj : j < xss.length)
    (henv : D.noInL r st.env = true) (hrows : ∀ q row cells, st.rows q = some row → row.c = .var cells → D.noInL r cells = true) :
    ∃ mu', SR G F w0 M0 (w.setCells b (base + j) [v]) M mu' tmps (((st.forget r).drop s).setRow r ⟨true, .nest k (xss.set j xs)⟩) := by
  obtain ⟨i0, hi0, hib⟩ := h.rowNC hs hv
  obtain ⟨cs, T, cv, c1, c2, c3, c4, c5, c6, c7⟩ := h.nestCells hr hl
  obtain ⟨_, gM, _⟩ := (h.rows r _ hr).block (b := b) (by rw [hl]; exact List.mem_cons_self)
  obtain ⟨hMb, hFb⟩ := gM rfl
  have hkp := z1p b [v] (base + j) w
  obtain ⟨cs2, f1, f2, f3, f4⟩ := z2a b [v] (base + j) w cs c1 (by simp; omega)
  have hkM : Keeps M w (w.setCells b (base + j) [v]) := hkp.mono fun x _ e => e ▸ hMb
  have hkF : Keeps F w (w.setCells b (base + j) [v]) := hkp.mono fun x _ e => e ▸ hFb
  have inR : ∀ x, x ∈ b :: z5 inn → InB (mu r) x := fun x hx => by rw [hl]; exact hx
  have sep : ∀ x, InB (mu r) x → ¬ InB (mu s) x := fun x h1 h2 => h.apart r s _ _ x hrs hr hs rfl rfl h1 h2
  have h0 : (st.forget r).rows r = none := by simp [St.forget]
  have hf := h.forget r
  have hrows' : ∀ q row cells, (st.forget r).rows q = some row → row.c = .var cells → D.noInL r cells = true := fun q row cells hq hc => by
    simp only [St.forget] at hq
    split at hq
    · cases hq
    · exact hrows q row cells hq hc
  have h2 := (hf.renest hpin h0 hl (inn' := inn.set j i0) henv hrows').drop s
  refine ⟨fun q => if q = r then some (.nest b base size (inn.set j i0)) else mu q, ?_⟩
  have memI : ∀ x, x ∈ b :: z5 (inn.set j i0) → x ∈ b :: z5 inn ∨ InB (mu s) x := fun x hx => by
    rcases List.mem_cons.1 hx with rfl | hx
    · exact .inl List.mem_cons_self
    · obtain ⟨o, ho, e⟩ := zq.1 hx
      rcases List.mem_or_eq_of_mem_set ho with ho | rfl
      · exact .inl (List.mem_cons_of_mem _ (zq.2 ⟨o, ho, e⟩))
      · exact .inr (hib x e)
  have old : ∀ q rq, ((st.forget r).drop s).rows q = some rq → rq.wr = true → ∃ r0, st.rows q = some r0 ∧ r0.wr = true ∧ q ≠ r ∧ q ≠ s := fun q rq hq hw => by
    obtain ⟨r1, g1, g2, g3⟩ := drop_wr hq hw
    simp only [St.forget] at g1
    split at g1
    · cases g1
    · rename_i hqr; exact ⟨r1, g1, g2, hqr, g3⟩
  have apartR : ∀ q rq x, ((st.forget r).drop s).rows q = some rq → rq.wr = true → x ∈ b :: z5 (inn.set j i0) → ¬ InB (mu q) x := fun q rq x hq hw hx hh => by
    obtain ⟨r0, g1, g2, g3, g4⟩ := old q rq hq hw
    rcases memI x hx with hx | hx
    · exact h.apart r q _ _ x (fun e => g3 e.symm) hr g1 rfl g2 (inR x hx) hh
    · exact h.apart s q _ _ x (fun e => g4 e.symm) hs g1 rfl g2 hx hh
  have ltI : ∀ x, x ∈ z5 (inn.set j i0) → x < w.heap.size ∧ x ≠ b := fun x hx => by
    have hnv := NestV.put hi0 j c3
    refine ⟨hnv.lt x hx, ?_⟩
    rintro rfl
    obtain ⟨o, ho, e⟩ := zq.1 hx
    rcases List.mem_or_eq_of_mem_set ho with ho | rfl
    · exact (List.nodup_cons.1 c7).1 (zq.2 ⟨o, ho, e⟩)
    · exact sep x (inR x List.mem_cons_self) (hib x e)
  have hnd : (b :: z5 (inn.set j i0)).Nodup := List.nodup_cons.2 ⟨fun hx => (ltI b hx).2 rfl, zba j (List.nodup_cons.1 c7).2 fun x e hx => sep x (inR x (List.mem_cons_of_mem _ hx)) (hib x e)⟩
  refine { env := RepL.keeps hkM (fun _ _ h => h) (fun _ _ h => h) _ h2.env, rows := ?_, apart := ?_, keeps := h2.keeps.trans hkF, m1 := h2.m1, m2 := h2.m2, mlt := fun x hx => Nat.lt_of_lt_of_le (h2.mlt x hx) hkp.size, fr := h2.fr, glob := fun g d hg => Rep.keeps hkM (fun _ _ h => h) (fun _ _ h => h) d (h2.glob g d hg), pin := h2.pin }
  · intro q rq hq
    simp only [St.setRow] at hq
    by_cases hqr : q = r
    · simp only [hqr, if_true] at hq
      cases hq
      rw [hqr]
      refine ⟨_, if_pos rfl, cs2, T, cv.set j v, _, f1, by omega, rfl, ?_, by simpa using c5, fun y hy => ?_, hnd, fun _ x hx => ?_, fun hf => by cases hf⟩
      · rw [List.map_set]
        exact (NestV.put hi0 j c3).keeps fun x hx => hkp.block x (ltI x hx).1 (ltI x hx).2
      · simp only [List.length_set] at hy
        by_cases hyj : y = j
        · subst hyj
          have := f3 0 (by simp)
          simp only [Nat.add_zero] at this
          rw [this]
          simp [List.getElem?_set, hy]
        · rw [f4 (base + y) (by simp; omega), c6 y hy, List.getElem?_set_ne (by omega)]
      · rcases memI x hx with hx | hx
        · exact ((h.rows r _ hr).block (inR x hx)).2.1 rfl
        · exact ((h.rows s _ hs).block hx).2.1 rfl
    · simp only [if_neg hqr] at hq
      refine (h2.rows q rq hq).keeps hkM (fun _ _ h => h) (fun _ _ h => h) fun x hx hm => ?_
      have hx' := hx
      simp only [if_neg hqr] at hx'
      obtain ⟨g1, g2, _⟩ := (h2.rows q rq hq).block hx
      exact ⟨hkp.block x g1 fun e => apartR q rq x hq hm (by rw [e]; exact List.mem_cons_self) hx', (g2 hm).1⟩
  · intro i j' ri rj x hij hi hj' mi mj bi bj
    simp only [St.setRow] at hi hj'
    by_cases hir : i = r
    · simp only [if_pos hir] at bi
      have hjr : j' ≠ r := fun e => hij (hir.trans e.symm)
      simp only [if_neg hjr] at hj' bj
      exact apartR j' rj x hj' mj bi bj
    · simp only [if_neg hir] at hi bi
      by_cases hjr : j' = r
      · simp only [if_pos hjr] at bj
        exact apartR i ri x hi mi bj bi
      · simp only [if_neg hjr] at hj' bj
        exact h2.apart i j' ri rj x hij hi hj' mi mj (by simpa only [if_neg hir] using bi) (by simpa only [if_neg hjr] using bj)
theorem zc6 {w : World} {k : IntKind} : ∀ (n : Nat), NestV w (List.replicate n none) ((List.replicate n ([] : List Int)).map (.row k)) (List.replicate n (.slice none 0 0))
  | 0 => trivial
  | n + 1 => ⟨⟨rfl, none, rfl⟩, zc6 n⟩
theorem zbb (n : Nat) : z5 (List.replicate n none) = [] := by
  induction n with
  | zero => rfl
  | succ n ih => rw [List.replicate_succ, z26, ih]; rfl
theorem SR.nestZeros (h : SR G F w0 M0 w M mu tmps st) {id : Nat} (hpin : ¬ Pinned id) {k : IntKind} {n : Nat} {cs : Array Value} {T : TypeId} (hw : Keeps (fun _ => False) w w') (hb : w'.heap[w.heap.size]? = some (.cells cs T (0, 0)))
    (hle : n ≤ cs.size) (hcs : ∀ j, j < n → cs[j]? = some (.slice none 0 0)) :
    ∃ M' mu', mu' id = some (.nest w.heap.size 0 cs.size (List.replicate n none)) ∧ (∀ r, r ≠ id → mu' r = mu r) ∧ SR G F w0 M0 w' M' mu' tmps (st.newRow id ⟨true, .nest k (List.replicate n [])⟩) := by
  have hlt : w.heap.size < w'.heap.size := (Array.getElem?_eq_some_iff.1 hb).1
  refine h.nestAt id hpin (hw.mono fun _ _ h => h.elim) hb (by omega) (zc6 n) (by simpa using hle) (fun j hj => ?_) (by rw [zbb]; simp) fun x hx => ?_
  · simp only [List.length_replicate] at hj
    rw [Nat.zero_add, hcs j hj, List.getElem?_replicate, if_pos hj]
  · rw [zbb] at hx
    rw [List.mem_singleton] at hx
    subst hx
    exact .inl ⟨Nat.le_refl _, hlt⟩
end
end Go.PR

end
