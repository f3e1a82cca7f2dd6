/- The evaluator for unknown values: regions, code, functions; the rules for a path. -/
import Derived.Test.YtmjbhacjgjihpaaDoorFwV4
import Derived.KernelRfl
set_option linter.unusedVariables false
set_option linter.unusedSimpArgs false
set_option linter.unusedSectionVars false
section
namespace Go.PR
open Go
def guardV (ops : Array Oper) (env : List D) (o : Oper) (no yes : V LSt) : V LSt :=
  match o.guard with
  | none => yes
  | some (j, want) => match (ops[j]?).bind (·.dst) with
    | some t => match env.getD t .any with
      | .bool b => vbind (vtell 0 (b = true)) fun y => vbind (need (b = y)) fun _ => if y = want then yes else no
      | .any => vfail
      | _ => no
    | none => no
def stepsV (X : Ctx) (ops : Array Oper) : List Oper → LSt → V LSt
  | [], s => vpure s
  | o :: rest, s => vbind (vat o (guardV ops s.env o (vpure (s.put o.dst .und)) (stepV X o s))) fun s' => stepsV X ops rest s'
def quietAV (X : Ctx) (s : LSt) (o : Oper) : V D :=
  match o.op with
  | .assign x => vpure (ev X s.st x)
  | _ => quietV X s o
def newV (X : Ctx) (s : LSt) (o : Oper) : V (D × List (Nat × Row)) :=
  match o.op, o.dst with
  | .call { callee := .value g, args, argTypes }, some d => match ev X s.st g with
    | .fn f cap => if (X.ft f).isNone || X.byref f then vfail else
      let all := args.toList.map (ev X s.st) ++ cap
      let Z := reach (rowsOf s.rl) all
      vbind (mapV (reifyV s.rl Z allRows) all) fun args' => vbind (vcall f args' []) fun r =>
        if r.passed.isEmpty && decide (r.out.length ≤ 40) && (Z.isEmpty || (r.res.noImm && r.out.all fun x => x.wr && x.c.noImm)) then
          vpure (r.res.ren (outF [] d r.out.length), outL [] d r.out.length 0 r.out)
        else vfail
    | _ => vfail
  | .buildSlice t n parts, some d => match elemOf X t with
    | some (e, ei) => if ei.size = 1 ∧ n ≤ 1000000 then
        match parts01 0 (parts.toList.map fun p => (p.1, ev X s.st p.2)) with
        | some ds => if ds.length = n then vbind (ofO (buildI (nkElem X e) ds)) fun c => vpure (.rsl (nid d) 0 n, [(nid d, ⟨true, c⟩)]) else vfail
        | none => vfail
      else if ei.agg = true ∧ n ≤ 1000 ∧ ei.size ≤ 1000 then
        match parts01 0 (parts.toList.map fun p => (p.1, ev X s.st p.2)), shOf X ei with
        | some ds, some sh => if ds.length = n ∧ sh.length = ei.size then vbind (ofO (buildR0 sh ds)) fun ps => vpure (.immR sh ps, []) else vfail
        | _, _ => vfail
      else vfail
    | none => vfail
  | _, _ => vfail
def writeV (X : Ctx) (s : LSt) (rl : List (Nat × Row)) (o : Oper) : V (D × List (Nat × Row)) :=
  match o.op, o.dst with
  | .call { callee := .builtin .append, args, argTypes }, some d => match args.toList, argTypes.toList with
    | [x, y], [t, ty] => match elemOf X t, X.tt ty with
      | some (e, ei), some ⟨.slice _, _, _, _⟩ => vbind (appendV (nid d) ei (nkElem X e) (ev X s.st x) (ev X s.st y) ⟨[], rl⟩) fun p => vpure (p.1, p.2.rl)
      | _, _ => vfail
    | _, _ => vfail
  | .store t ad x, none => match X.tt t, ev X s.st ad with
    | some i, .pel r j => if i.size = 1 ∧ i.agg = false ∧ scal (ev X s.st x) = true then
        match lget r rl with
        | some ⟨true, c⟩ => if c.isVar then vfail else vbind (setV c j (ev X s.st x)) fun c' => vpure (.und, lset r ⟨true, c'⟩ rl)
        | _ => vfail
      else vfail
    | some i, .ptr r off => if i.size = 1 ∧ i.agg = false ∧ cell1 (ev X s.st x) = true then
        match lget r rl with
        | some ⟨true, .var old⟩ => if off < old.length then vpure (.und, lset r ⟨true, .var (old.set off (ev X s.st x))⟩ rl) else vfail
        | _ => vfail
      else vfail
    | _, _ => vfail
  | .call { callee := .builtin .copy, args, argTypes }, _ => match args.toList, argTypes.toList with
    | [x, y], [t, ty] => match elemOf X t, X.tt ty with
      | some (e, ei), some ⟨.slice _, _, _, _⟩ => if ei.size = 1 then vbind (copyV (ev X s.st x) (ev X s.st y) ⟨[], rl⟩) fun p => vpure (p.1, p.2.rl) else vfail
      | _, _ => vfail
    | _, _ => vfail
  | .call { callee := .builtin .clear, args, argTypes }, _ => match args.toList, argTypes.toList with
    | [x], [t] => match elemOf X t with
      | some (e, ei) => if ei.size = 1 then vbind (clearV (nkElem X e) ei.zero (ev X s.st x) ⟨[], rl⟩) fun p => vpure (p.1, p.2.rl) else vfail
      | none => vfail
    | _, _ => vfail
  | _, _ => vfail
def stepDV (X : Ctx) (ops : Array Oper) (clo : List Nat) (k : Nat) (o : Oper) (s : LSt) : V LSt :=
  let e := keepEnv (o.looksAt ops) 0 s.env
  guardV ops e o (vpure (s.put o.dst .und)) (match cls o.op with
    | .pure => vbind (quietAV X ⟨e, []⟩ o) fun d => vpure (s.put o.dst d)
    | .read => vbind (quietAV X ⟨e, ldel (maskP clo k ops.toList 0) s.rl⟩ o) fun d => vpure (s.put o.dst d)
    | .new => vbind (newV X ⟨e, ldel (maskP clo k ops.toList 0) s.rl⟩ o) fun p => vpure (LSt.put o.dst p.1 ⟨s.env, ldel (fun i => !nset o.dst i) p.2 ++ ldel (nset o.dst) s.rl⟩)
    | .write => vbind (writeV X ⟨e, []⟩ s.rl o) fun p => vpure (LSt.put o.dst p.1 ⟨s.env, p.2⟩)
    | .no => vfail)
def stepsDV (X : Ctx) (ops : Array Oper) (clo : List Nat) : List Oper → Nat → LSt → V LSt
  | [], _, s => vpure s
  | o :: rest, k, s => vbind (vat o (stepDV X ops clo k o s)) fun s' => stepsDV X ops clo rest (k + 1) s'
def z76 (d : D) (s : LSt) : LSt :=
  match d with
  | .ptr r off => match lget r s.rl with
    | some ⟨true, .var cells⟩ => match cells.getD off .any with
      | .rsl q _ _ => if unbound q && (lget q s.rl).isSome && q != home r off then s.move q (home r off) else s
      | .nsl q _ => if loose q && (lget q s.rl).isSome && q != home r off then s.move q (home r off) else s
      | .rcs q _ _ => if unbound q && (lget q s.rl).isSome && q != home r off then s.move q (home r off) else s
      | _ => s
    | _ => s
  | _ => s
theorem zes (d : D) (s : LSt) : (z76 d s).st = bindCell d s.st := by
  unfold z76 bindCell
  cases d with
  | ptr r off =>
    simp only [st_rows]
    cases lget r s.rl with
    | none => rfl
    | some row =>
      obtain ⟨wr, c⟩ := row
      cases wr with
      | false => rfl
      | true =>
        cases c with
        | var cells =>
          simp only
          cases cells.getD off .any with
          | rsl q o n =>
            simp only
            split
            · exact move_st _ _ _
            · rfl
          | nsl q n =>
            simp only
            split
            · exact move_st _ _ _
            · rfl
          | rcs q sz n =>
            simp only
            split
            · exact move_st _ _ _
            · rfl
          | _ => rfl
        | _ => rfl
  | _ => rfl
def bindNL (r off : Nat) (s : LSt) : LSt :=
  match lget r s.rl with
  | some ⟨true, .var cells⟩ => match cells.getD off .any with
    | .nsl q _ => if loose q && (lget q s.rl).isSome && q != home r off then s.move q (home r off) else s
    | _ => s
  | _ => s
def bindNsL (r : Nat) : Nat → LSt → LSt
  | 0, s => s
  | n + 1, s => bindNL r n (bindNsL r n s)
def z77 (d : D) (s : LSt) : LSt :=
  match d with
  | .ptr r _ => match lget r s.rl with
    | some ⟨_, .var cells⟩ => bindNsL r cells.length s
    | _ => s
  | _ => s
def z4w : List D → LSt → LSt
  | [], s => s
  | d :: ds, s => z4w ds (z77 d s)
def bindInL (n : Nat) (s : LSt) : LSt := z4w ((List.range n).map fun j => .ptr (PB + j) 0) s
theorem zeu (r off : Nat) (s : LSt) : (bindNL r off s).st = bindN r off s.st := by
  unfold bindNL bindN
  simp only [st_rows]
  cases lget r s.rl with
  | none => rfl
  | some row =>
    obtain ⟨wr, c⟩ := row
    cases wr with
    | false => rfl
    | true =>
      cases c with
      | var cells =>
        simp only
        cases cells.getD off .any with
        | nsl q n =>
          simp only
          split
          · exact move_st _ _ _
          · rfl
        | _ => rfl
      | _ => rfl
theorem z9u (r : Nat) : ∀ (n : Nat) (s : LSt), (bindNsL r n s).st = bindNs r n s.st
  | 0, _ => rfl
  | n + 1, s => by simp only [bindNsL, bindNs]; rw [zeu, z9u r n]
theorem zev (d : D) (s : LSt) : (z77 d s).st = bindRow d s.st := by
  unfold z77 bindRow
  cases d with
  | ptr r off =>
    simp only [st_rows]
    cases lget r s.rl with
    | none => rfl
    | some row =>
      obtain ⟨wr, c⟩ := row
      cases c with
      | var cells => exact z9u r _ s
      | _ => rfl
  | _ => rfl
theorem z78 : ∀ (ds : List D) (s : LSt), (z4w ds s).st = bindRows ds s.st
  | [], _ => rfl
  | d :: ds, s => by simp only [z4w, bindRows]; rw [z78 ds, zev]
theorem zet (n : Nat) (s : LSt) : (bindInL n s).st = bindIn n s.st := z78 _ s
def z2h (X : Ctx) : List Oper → LSt → LSt
  | [], s => s
  | o :: rest, s => match o.op, o.dst with
    | .assign _, some t => if t < 1000 then z2h X rest (bindAtL (nkAt X o) t t s) else z2h X rest s
    | .store _ ad _, none => z2h X rest (z76 (ev X s.st ad) s)
    | .call { callee := .value _, args, .. }, _ => z2h X rest (z4w (args.toList.map (ev X s.st)) s)
    | _, _ => z2h X rest s
def dropPL (p : Nat → Bool) (s : LSt) : LSt := ⟨D.renL (killP p) s.env, lren (killP p) (ldel p s.rl)⟩
def drawOV (X : Ctx) (ops : Array Oper) (s : LSt) : V LSt :=
  if orderOK ops then vbind (stepsDV X ops (closL ops.toList []) ops.toList 0 (dropPL (allP ops.toList) s)) fun s' => vpure (z2h X ops.toList s') else vfail
structure SL where
  s : LSt
  R : Nat → Option (Option (List Nat))
  T : Nat → Option (Option (List Nat))
def SL.sq (x : SL) : SQ := ⟨x.s.st, x.R, x.T⟩
def quietLV (X : Ctx) (ops : Array Oper) (s : LSt) (o : Oper) : V D := if isLit X ops o then ofO (litD X s.st o) else quietAV X s o
def stepQV (X : Ctx) (ops : Array Oper) (clo : List Nat) (i : Nat) (o : Oper) (x : SL) : V SL :=
  if seqRd X ops o then
    (if fits clo i (rdRefs X ops o x.s.st) x.T ops.size then vbind (quietLV X ops ⟨keepEnv (o.looksAt ops) 0 x.s.env, x.s.rl⟩ o) (fun d => vpure ⟨x.s.put o.dst d, updQ x.R i (rdRefs X ops o x.s.st), x.T⟩) else vfail)
  else if seqHard X ops o then
    (if fits clo i (touch X o x.s.st) x.R ops.size then vbind (guardV ops x.s.env o (vpure (x.s.put o.dst .und)) (stepV X o x.s)) (fun s => vpure ⟨s, x.R, updQ x.T i (touch X o x.s.st)⟩) else vfail)
  else vbind (guardV ops x.s.env o (vpure (x.s.put o.dst .und)) (stepV X o x.s)) fun s => vpure ⟨s, x.R, x.T⟩
def stepsQV (X : Ctx) (ops : Array Oper) (clo : List Nat) : List Oper → Nat → SL → V SL
  | [], _, x => vpure x
  | o :: rest, k, x => vbind (vat o (stepQV X ops clo k o x)) fun x' => stepsQV X ops clo rest (k + 1) x'
def drawV (X : Ctx) (ops : Array Oper) (s : LSt) : V LSt :=
  if useSeq X ops then (if seqOK X ops then vbind (stepsQV X ops (closL ops.toList []) ops.toList 0 ⟨s, fun _ => none, fun _ => none⟩) fun x => vpure (z2h X ops.toList x.s) else vfail)
  else drawOV X ops s
def keepL (h : Option Hint) (s : LSt) : LSt :=
  match h with
  | some h => ⟨keepEnv h.temps 0 s.env, z13 (rowsOf s.rl) (dedup (reach (rowsOf s.rl) (keepEnv h.temps 0 s.env) ++ h.rows))⟩
  | none => s
theorem zbg (ts : List Nat) : ∀ (i : Nat) (ds : List D), keepEnv ts i (keepEnv ts i ds) = keepEnv ts i ds
  | _, [] => rfl
  | i, d :: ds => by
    simp only [keepEnv, zbg ts (i + 1) ds]
    split <;> rfl
theorem z8p {R : Nat → Option Row} : ∀ {ids : List Nat} {i : Nat}, i ∈ ids → rowsOf (z13 R ids) i = R i
  | [], i, h => by cases h
  | j :: js, i, h => by
    simp only [z13]
    cases e : R j with
    | some r =>
      simp only [rowsOf]
      by_cases hij : i = j
      · subst hij; rw [if_pos rfl, e]
      · rw [if_neg hij]
        rcases List.mem_cons.1 h with h | h
        · exact (hij h).elim
        · exact z8p h
    | none =>
      simp only
      rcases List.mem_cons.1 h with rfl | h
      · cases e2 : rowsOf (z13 R js) i with
        | none => rw [e]
        | some r => exact ((z2p js i r e2).symm)
      · exact z8p h
theorem zcl {R R' : Nat → Option Row} {ids : List Nat} (h : ∀ i ∈ ids, R' i = R i) : refsOf R' ids = refsOf R ids := by
  unfold refsOf
  congr 2
  exact List.map_congr_left fun i hi => by rw [h i hi]
theorem zky {R R' : Nat → Option Row} {ds : List D} (h : ∀ i ∈ reach R ds, R' i = R i) : reach R' ds = reach R ds := by
  have m2 : ∀ i ∈ dedup (refsOf R (dedup (D.refsL ds))), R' i = R i := fun i hi => h i (z4h.2 (z6d hi))
  have m1 : ∀ i ∈ dedup (D.refsL ds), R' i = R i := fun i hi => m2 i (z4h.2 (z6d hi))
  unfold reach
  rw [zcl m1, zcl m2]
theorem zcd {R R' : Nat → Option Row} : ∀ {ids : List Nat}, (∀ i ∈ ids, R' i = R i) → z13 R' ids = z13 R ids
  | [], _ => rfl
  | i :: is, h => by
    have ih := zcd (ids := is) fun j hj => h j (List.mem_cons_of_mem _ hj)
    simp only [z13, h i (by simp), ih]
theorem zbh (h : Option Hint) (s : LSt) : keepL h (keepL h s) = keepL h s := by
  cases h with
  | none => rfl
  | some h =>
    simp only [keepL, zbg]
    have hr : ∀ i ∈ dedup (reach (rowsOf s.rl) (keepEnv h.temps 0 s.env) ++ h.rows), rowsOf (z13 (rowsOf s.rl) (dedup (reach (rowsOf s.rl) (keepEnv h.temps 0 s.env) ++ h.rows))) i = rowsOf s.rl i := fun i hi => z8p hi
    have e : reach (rowsOf (z13 (rowsOf s.rl) (dedup (reach (rowsOf s.rl) (keepEnv h.temps 0 s.env) ++ h.rows)))) (keepEnv h.temps 0 s.env) = reach (rowsOf s.rl) (keepEnv h.temps 0 s.env) := zky fun i hi => hr i (z4h.2 (List.mem_append_left _ hi))
    rw [e, zcd hr]
theorem z5u (h : Option Hint) (s : LSt) : (keepL h s).st = s.st.keep h := by cases h <;> rfl
def codeV (X : Ctx) (f : FuncId) (bid : Nat) : Code → LSt → V OutL
  | .skip, s => vpure (.normal s)
  | .label _, s => vpure (.normal s)
  | .region _ ops draw, s => vbind (if draw then drawV X ops s else stepsV X ops ops.toList s) fun s' => vpure (.normal s')
  | .seq a b, s => vbind (codeV X f bid a s) fun o => match o with
    | .normal s' => codeV X f bid b s'
    | o => vpure o
  | .cond c x y, s => match ev X s.st c with
    | .bool b => vbind (vtell 0 (b = true)) fun t => vbind (need (b = t)) fun _ => if t then codeV X f bid x s else codeV X f bid y s
    | _ => vfail
  | .block id body, s => vbind (codeV X f id body s) fun o => match o with
    | .exit j s' => if j = id then vpure (.normal s') else vpure (.exit j s')
    | o => vpure o
  | .loop body, s => vbind (vloop bid body (keepL (X.keep f bid) s)) fun o => vpure o
  | .exit id, s => vpure (.exit id s)
  | .ret, s => vpure (.ret s)
  | _, _ => vfail
def inL : Nat → List Row → List (Nat × Row)
  | _, [] => []
  | j, r :: rs => (j, r) :: inL (j + 1) rs
def fnV (X : Ctx) (f : FuncId) (fn : Func) (args : List D) (prows : List Row) : V Ret :=
  match fn.body with
  | some c => vbind (codeV X f 0 c (bindInL prows.length ⟨args ++ List.replicate (fn.ntmps - args.length) .und, inL PB prows⟩)) fun o => match o with
    | .ret s => ofO (match mapO (resD X s.st) fn.results.toList with | some ds => export_ prows.length s.st (oneOr ds) | none => none)
    | .normal s => ofO (match mapO (resD X s.st) fn.results.toList with | some ds => export_ prows.length s.st (oneOr ds) | none => none)
    | _ => vfail
  | none => vfail
section
variable {X : Ctx} {cl : CL'} {lp : LP'} {s : LSt} {ops : Array Oper}
theorem z7o {env : List D} {rows : Nat → Option Row} {o : Oper} {no yes : V LSt} {f0 fno fyes : Option St} (hno : wanted ops ⟨env, rows⟩ o = .no → f0 = fno) (hyes : wanted ops ⟨env, rows⟩ o = .yes → f0 = fyes) (h1 : Sim cl lp no fno LSt.st) (h2 : Sim cl lp yes fyes LSt.st) : Sim cl lp (guardV ops env o no yes) f0 LSt.st := by
  have pno : wanted ops ⟨env, rows⟩ o = .no → Sim cl lp no f0 LSt.st := fun h => by rw [hno h]; exact h1
  have pyes : wanted ops ⟨env, rows⟩ o = .yes → Sim cl lp yes f0 LSt.st := fun h => by rw [hyes h]; exact h2
  unfold guardV
  unfold wanted at pno pyes
  cases hg : o.guard with
  | none => rw [hg] at pyes; exact pyes rfl
  | some g =>
    obtain ⟨j, want⟩ := g
    rw [hg] at pno pyes
    simp only at pno pyes ⊢
    cases hd : (ops[j]?).bind (·.dst) with
    | none => rw [hd] at pno; exact pno rfl
    | some t =>
      rw [hd] at pno pyes
      simp only at pno pyes ⊢
      cases hv : env.getD t .any with
      | bool b =>
        rw [hv] at pno pyes
        simp only at pno pyes ⊢
        refine Sim.tell fun y => Sim.needs fun h => ?_
        split
        · rename_i e; exact pyes (by simp [h, e])
        · rename_i e; exact pno (by simp [h, e])
      | any => exact Sim.fail
      | _ => rw [hv] at pno; exact pno rfl
theorem zdv (s : LSt) (o : Oper) : Sim cl lp (guardV ops s.env o (vpure (s.put o.dst .und)) (stepV X o s)) (stepG X cl ops o s.st) LSt.st := by
  refine z7o (rows := s.st.rows) (fno := some (s.st.setD o.dst .und)) (fyes := step X cl o s.st) (fun h => ?_) (fun h => ?_) (Sim.pure (by rw [put_st])) (zdy o)
  · have h' : wanted ops s.st o = .no := h
    simp only [stepG, h']
  · have h' : wanted ops s.st o = .yes := h
    simp only [stepG, h']
theorem ze4 : ∀ (l : List Oper) (s : LSt), Sim cl lp (stepsV X ops l s) (stepsG X cl ops l s.st) LSt.st
  | [], s => Sim.pure rfl
  | o :: l, s => by
    have h1 : Sim cl lp (guardV ops s.env o (vpure (s.put o.dst .und)) (stepV X o s)) (stepG X cl ops o s.st) LSt.st := by
      refine z7o (rows := s.st.rows) (fno := some (s.st.setD o.dst .und)) (fyes := step X cl o s.st) (fun h => ?_) (fun h => ?_) (Sim.pure (by rw [put_st])) (zdy o)
      · have h' : wanted ops s.st o = .no := h
        simp only [stepG, h']
      · have h' : wanted ops s.st o = .yes := h
        simp only [stepG, h']
    refine Sim.bind (Sim.at h1) fun s' hs => ?_
    have : stepsG X cl ops (o :: l) s.st = stepsG X cl ops l s'.st := by simp only [stepsG, hs]
    rw [this]
    exact ze4 l s'
theorem z8q (o : Oper) : Sim cl lp (quietAV X s o) (quietA X s.st o) id := by
  unfold quietAV
  split
  · rename_i x hop; exact Sim.pure (by simp only [quietA, hop]; rfl)
  · rename_i h
    have : quietA X s.st o = quiet X s.st o := by
      unfold quietA
      split
      · exact (h _ (by assumption)).elim
      · rfl
    rw [this]; exact zcf o
def pairR {α : Type} (p : α × List (Nat × Row)) : α × (Nat → Option Row) := (p.1, rowsOf p.2)
theorem zkf (o : Oper) : Sim cl lp (newV X s o) (newD X cl s.st o) pairR := by
  unfold newV
  split
  · rename_i g args argTypes d hop hdst
    split
    · rename_i f cap hg
      split
      · exact Sim.fail
      · rename_i hft
        dsimp only
        refine Sim.bind (z3p (z6e (s := s) (reach (rowsOf s.rl) (args.toList.map (ev X s.st) ++ cap)) allRows) _) fun args' ha => Sim.call fun r hcall => ?_
        simp only [id_eq] at ha
        split
        · rename_i hc
          refine Sim.pure ?_
          have hc' := hc
          simp only [Bool.and_eq_true, decide_eq_true_eq, List.isEmpty_iff] at hc'
          have hr : s.st.rows = rowsOf s.rl := rfl
          simp only [newD, hop, hdst, hg, if_neg hft]
          rw [hr] at ha ⊢
          rw [ha]
          dsimp only
          rw [hcall]
          dsimp only
          rw [if_pos hc]
          obtain ⟨res, ps, outs⟩ := r
          have hps : ps = [] := hc'.1.1
          subst hps
          have := z9r d res outs [] hc'.1.2
          rw [z8l, this]
          simp only [pairR, ldel, List.append_nil]
        · exact Sim.fail
    · exact Sim.fail
  · rename_i t n parts d hop hdst
    split
    · rename_i e ei hel
      split
      · rename_i hsz
        split
        · rename_i ds hds
          split
          · rename_i hn
            refine Sim.opt fun c hc => Sim.pure ?_
            simp only [newD, hop, hdst, hel, if_pos hsz, hds, if_pos hn, hc, Option.map_some, pairR, zkl]
          · exact Sim.fail
        · exact Sim.fail
      · rename_i hsz
        split
        · rename_i hag
          split
          · rename_i ds sh hds hsh
            split
            · rename_i hn
              refine Sim.opt fun ps hc => Sim.pure ?_
              simp only [newD, hop, hdst, hel, if_neg hsz, if_pos hag, hds, hsh, if_pos hn, hc, Option.map_some, pairR, z8l]
            · exact Sim.fail
          · exact Sim.fail
        · exact Sim.fail
    · exact Sim.fail
  · exact Sim.fail
theorem zbz (r : Nat) (row : Row) (rl : List (Nat × Row)) : (fun i => if i = r then some row else rowsOf rl i) = rowsOf (lset r row rl) := by
  have := congrArg St.rows (zd2 r row [] rl)
  exact this
theorem zpg (rl : List (Nat × Row)) (o : Oper) : Sim cl lp (writeV X s rl o) (writeD X s.st (rowsOf rl) o) pairR := by
  unfold writeV
  split
  · rename_i args argTypes d hop hdst
    split
    · rename_i x y t ty hargs hty
      split
      · rename_i e ei e' sz by_ z hel hty2
        refine Sim.bind (z9o (X := X) (s := ⟨[], rl⟩) _ ei _ _ _) fun p hp => Sim.pure ?_
        have hp' : appendD X (nid d) ei (nkElem X e) (ev X s.st x) (ev X s.st y) ⟨[], rowsOf rl⟩ = some (pairSt p) := hp
        simp only [writeD, hop, hdst, hargs, hty, hel, hty2, hp', Option.map_some]
        rfl
      · exact Sim.fail
    · exact Sim.fail
  · rename_i t ad x hop hdst
    split
    · rename_i i r j ht had
      split
      · rename_i hc
        split
        · rename_i c hrow
          split
          · exact Sim.fail
          · rename_i hv
            refine Sim.bind (zd3 c j _) fun c' hc' => Sim.pure ?_
            simp only [id_eq] at hc'
            simp only [writeD, hop, hdst, ht, had, if_pos hc, zd, hrow, if_neg hv, hc', Option.map_some, pairR]
            simp only [← zd, zbz]
        · exact Sim.fail
      · exact Sim.fail
    · rename_i i r off ht had
      split
      · rename_i hc
        split
        · rename_i old hrow
          split
          · rename_i hlt
            refine Sim.pure ?_
            simp only [writeD, hop, hdst, ht, had, if_pos hc, zd, hrow, if_pos hlt, pairR]
            simp only [← zd, zbz]
          · exact Sim.fail
        · exact Sim.fail
      · exact Sim.fail
    · exact Sim.fail
  · rename_i args argTypes hop
    split
    · rename_i x y t ty hargs hty
      split
      · rename_i e ei e' sz by_ z hel hty2
        split
        · rename_i hsz
          refine Sim.bind (zaf (s := ⟨[], rl⟩) _ _) fun p hp => Sim.pure ?_
          obtain ⟨⟨r, c⟩, h1, h2⟩ := Option.map_eq_some_iff.1 hp
          have h1' : copyW (ev X s.st x) (ev X s.st y) (rowsOf rl) = some (r, c) := h1
          simp only [writeD, hop, hargs, hty, hel, hty2, if_pos hsz, h1', Option.map_some]
          have e1 := congrArg Prod.fst h2
          have e2 := congrArg (fun q => q.2.rows) h2
          simp only [pairSt] at e1 e2
          simp only [pairR, ← e1]
          exact congrArg (fun q => some (r, q)) e2
        · exact Sim.fail
      · exact Sim.fail
    · exact Sim.fail
  · rename_i args argTypes hop
    split
    · rename_i x t hargs hty
      split
      · rename_i e ei hel
        split
        · rename_i hsz
          refine Sim.bind (za7 (s := ⟨[], rl⟩) _ _ _) fun p hp => Sim.pure ?_
          obtain ⟨⟨r, c⟩, h1, h2⟩ := Option.map_eq_some_iff.1 hp
          have h1' : clearW (nkElem X e) ei.zero (ev X s.st x) (rowsOf rl) = some (r, c) := h1
          simp only [writeD, hop, hargs, hty, hel, if_pos hsz, h1', Option.map_some]
          have e1 := congrArg Prod.fst h2
          have e2 := congrArg (fun q => q.2.rows) h2
          simp only [pairSt] at e1 e2
          simp only [pairR, ← e1]
          exact congrArg (fun q => some (r, q)) e2
        · exact Sim.fail
      · exact Sim.fail
    · exact Sim.fail
  · exact Sim.fail
theorem zow (clo : List Nat) (k : Nat) (o : Oper) : Sim cl lp (stepDV X ops clo k o s) (stepD X cl ops clo k o s.st) LSt.st := by
  have e0 : s.st.env = s.env := rfl
  have er : s.st.rows = rowsOf s.rl := rfl
  have en : (⟨keepEnv (o.looksAt ops) 0 s.env, []⟩ : LSt).st = ⟨keepEnv (o.looksAt ops) 0 s.env, fun _ => none⟩ := by rw [z8l]; rfl
  have em : (⟨keepEnv (o.looksAt ops) 0 s.env, ldel (maskP clo k ops.toList 0) s.rl⟩ : LSt).st = ⟨keepEnv (o.looksAt ops) 0 s.env, mask (maskP clo k ops.toList 0) s.st.rows⟩ := by rw [er, zk0]; rfl
  unfold stepDV
  dsimp only
  refine z7o (rows := fun _ => none) (fno := some (s.st.setD o.dst .und)) (fyes := match cls o.op with
    | .pure => (quietA X ⟨keepEnv (o.looksAt ops) 0 s.st.env, fun _ => none⟩ o).map fun d => s.st.setD o.dst d
    | .read => (quietA X ⟨keepEnv (o.looksAt ops) 0 s.st.env, mask (maskP clo k ops.toList 0) s.st.rows⟩ o).map fun d => s.st.setD o.dst d
    | .new => (newD X cl ⟨keepEnv (o.looksAt ops) 0 s.st.env, mask (maskP clo k ops.toList 0) s.st.rows⟩ o).map fun p => { s.st with rows := addRows o.dst p.2 s.st.rows }.setD o.dst p.1
    | .write => (writeD X ⟨keepEnv (o.looksAt ops) 0 s.st.env, fun _ => none⟩ s.st.rows o).map fun p => { s.st with rows := p.2 }.setD o.dst p.1
    | .no => none) (fun h => by simp only [stepD, e0, h]) (fun h => by simp only [stepD, e0, h]; cases cls o.op <;> rfl) (Sim.pure (by rw [put_st])) ?_
  rw [e0, ← en, ← em]
  cases cls o.op with
  | pure => exact Sim.bind (z8q o) fun d hd => Sim.pure (by simp only [id_eq] at hd; simp only [hd, Option.map_some, put_st])
  | read => exact Sim.bind (z8q o) fun d hd => Sim.pure (by simp only [id_eq] at hd; simp only [hd, Option.map_some, put_st])
  | new =>
    refine Sim.bind (zkf o) fun p hp => Sim.pure ?_
    simp only [hp, Option.map_some, put_st, pairR, er, ze9]
    rfl
  | write =>
    refine Sim.bind (zpg s.rl o) fun p hp => Sim.pure ?_
    rw [er]
    simp only [hp, Option.map_some, put_st, pairR]
    rfl
  | no => exact Sim.fail
theorem zdz (clo : List Nat) : ∀ (l : List Oper) (k : Nat) (s : LSt), Sim cl lp (stepsDV X ops clo l k s) (stepsD X cl ops clo l k s.st) LSt.st
  | [], k, s => Sim.pure rfl
  | o :: l, k, s => by
    refine Sim.bind (Sim.at (zow clo k o)) fun s' hs => ?_
    have : stepsD X cl ops clo (o :: l) k s.st = stepsD X cl ops clo l (k + 1) s'.st := by simp only [stepsD, hs]
    rw [this]
    exact zdz clo l (k + 1) s'
theorem z3a : ∀ (l : List Oper) (s : LSt), (z2h X l s).st = bindEnd X l s.st
  | [], s => rfl
  | o :: l, s => by
    unfold z2h
    split
    · rename_i x t hop hdst
      split
      · rename_i ht; rw [z3a l, z75]; simp only [bindEnd, hop, hdst, if_pos ht]
      · rename_i ht; rw [z3a l]; simp only [bindEnd, hop, hdst, if_neg ht]
    · rename_i t ad x hop hdst
      rw [z3a l, zes]; simp only [bindEnd, hop, hdst]
    · rename_i hop
      rw [z3a l, z78]; simp only [bindEnd, hop]
    · rename_i h h' h''
      rw [z3a l]
      have : bindEnd X (o :: l) s.st = bindEnd X l s.st := by
        unfold bindEnd
        split
        · first | exact (h _ _ (by assumption) (by assumption)).elim | exact (h' _ _ (by assumption) (by assumption)).elim | exact (h'' _ _ (by assumption) (by assumption)).elim
        · first | exact (h _ _ _ (by assumption) (by assumption)).elim | exact (h' _ _ _ (by assumption) (by assumption)).elim | exact (h'' _ _ _ (by assumption) (by assumption)).elim
        · first | exact (h _ _ _ (by assumption)).elim | exact (h' _ _ _ (by assumption)).elim | exact (h'' _ _ _ (by assumption)).elim
        · cases l <;> rfl
      rw [this]
theorem zfm (p : Nat → Bool) (s : LSt) : (dropPL p s).st = s.st.dropP p := (zfl p s.env s.rl).symm
theorem zfg (s : LSt) : Sim cl lp (drawOV X ops s) (drawO X cl ops s.st) LSt.st := by
  unfold drawOV
  split
  · rename_i hok
    refine Sim.bind (zdz _ _ _ _) fun s' hs => Sim.pure ?_
    rw [zfm] at hs
    simp only [drawO, if_pos hok, hs, Option.map_some, z3a]
  · exact Sim.fail
theorem zkt (o : Oper) : Sim cl lp (quietLV X ops s o) (quietL X ops s.st o) id := by
  unfold quietLV quietL
  split
  · exact Sim.opt' fun x hx => hx
  · exact z8q o
theorem zoz (clo : List Nat) (i : Nat) (o : Oper) (x : SL) : Sim cl lp (stepQV X ops clo i o x) (stepQ X cl ops clo i o x.sq) SL.sq := by
  unfold stepQV stepQ
  split
  · rename_i hrd
    have e1 : x.sq.st = x.s.st := rfl
    have e2 : x.sq.T = x.T := rfl
    rw [e1, e2]
    split
    · exact Sim.bind (zkt (s := ⟨keepEnv (o.looksAt ops) 0 x.s.env, x.s.rl⟩) o) fun d hd => Sim.pure (by
        have hd' : quietL X ops ⟨keepEnv (o.looksAt ops) 0 x.s.st.env, x.s.st.rows⟩ o = some d := hd
        simp only [hd', Option.map_some, SL.sq, put_st])
    · exact Sim.fail
  · split
    · have e1 : x.sq.st = x.s.st := rfl
      have e2 : x.sq.R = x.R := rfl
      rw [e1, e2]
      split
      · exact Sim.bind (zdv x.s o) fun s hs => Sim.pure (by simp only [hs, Option.map_some]; rfl)
      · exact Sim.fail
    · exact Sim.bind (zdv x.s o) fun s hs => Sim.pure (by
        have hs' : stepG X cl ops o x.sq.st = some s.st := hs
        simp only [hs', Option.map_some]; rfl)
theorem ze2 (clo : List Nat) : ∀ (l : List Oper) (k : Nat) (x : SL), Sim cl lp (stepsQV X ops clo l k x) (stepsQ X cl ops clo l k x.sq) SL.sq
  | [], k, x => Sim.pure rfl
  | o :: l, k, x => by
    refine Sim.bind (Sim.at (zoz clo k o x)) fun x' hs => ?_
    have : stepsQ X cl ops clo (o :: l) k x.sq = stepsQ X cl ops clo l (k + 1) x'.sq := by simp only [stepsQ, hs]
    rw [this]
    exact ze2 clo l (k + 1) x'
theorem zfi (s : LSt) : Sim cl lp (drawV X ops s) (drawD X cl ops s.st) LSt.st := by
  unfold drawV drawD
  split
  · rename_i hu
    split
    · rename_i hok
      refine Sim.bind (ze2 _ _ _ _) fun x' hs => Sim.pure ?_
      have hs' : stepsQ X cl ops (closL ops.toList []) ops.toList 0 (SQ.of s.st) = some x'.sq := hs
      simp only [seqD, if_pos hok, hs', Option.map_some, z3a]
      rfl
    · exact Sim.fail
  · exact zfg s
theorem zac {f : FuncId} {n : Nat} : ∀ (c : Code) (bid : Nat) (s : LSt), Sim cl (fun bid body st => zw (X.keep f bid) (z4 X cl f n bid body) n st) (codeV X f bid c s) (z4 X cl f n bid c s.st) OutL.out := by
  intro c
  induction c with
  | skip => intro bid s; exact Sim.pure rfl
  | label l => intro bid s; exact Sim.pure rfl
  | region id ops draw =>
    intro bid s
    have h1 : Sim cl (fun bid body st => zw (X.keep f bid) (z4 X cl f n bid body) n st) (if draw then drawV X ops s else stepsV X ops ops.toList s) (z3e X cl ops draw s.st) LSt.st := by
      unfold z3e
      cases draw with
      | true => exact zfi s
      | false => exact ze4 _ s
    exact Sim.bind h1 fun s' hs => Sim.pure (by simp only [z4, hs, Option.map_some]; rfl)
  | seq a b iha ihb =>
    intro bid s
    refine Sim.bind (iha bid s) fun o ho => ?_
    cases o with
    | normal s' =>
      have : z4 X cl f n bid (.seq a b) s.st = z4 X cl f n bid b s'.st := by simp only [z4, ho, OutL.out]
      rw [this]
      exact ihb bid s'
    | exit i s' => exact Sim.pure (by simp only [z4, ho, OutL.out])
    | ret s' => exact Sim.pure (by simp only [z4, ho, OutL.out])
  | cond x a b iha ihb =>
    intro bid s
    unfold codeV
    split
    · rename_i t ht
      refine Sim.tell fun g => Sim.needs fun h => ?_
      subst h
      cases t with
      | true =>
        have : z4 X cl f n bid (.cond x a b) s.st = z4 X cl f n bid a s.st := by simp only [z4, ht, if_true]
        rw [this]; exact iha bid s
      | false =>
        have : z4 X cl f n bid (.cond x a b) s.st = z4 X cl f n bid b s.st := by simp only [z4, ht, Bool.false_eq_true, if_false]
        rw [this]; exact ihb bid s
    · exact Sim.fail
  | block id body ih =>
    intro bid s
    refine Sim.bind (ih id s) fun o ho => ?_
    cases o with
    | normal s' => exact Sim.pure (by simp only [z4, ho, OutL.out])
    | exit j s' =>
      simp only
      split
      · rename_i e; exact Sim.pure (by simp only [z4, ho, OutL.out, if_pos e])
      · rename_i e; exact Sim.pure (by simp only [z4, ho, OutL.out, if_neg e])
    | ret s' => exact Sim.pure (by simp only [z4, ho, OutL.out])
  | loop body ih =>
    intro bid s
    refine Sim.loop fun o ho => Sim.pure ?_
    simp only [z4]
    have : ∀ m, zw (X.keep f bid) (z4 X cl f n bid body) m (keepL (X.keep f bid) s).st = zw (X.keep f bid) (z4 X cl f n bid body) m s.st := by
      intro m
      cases m with
      | zero => rfl
      | succ m => simp only [zw, ← z5u, zbh]
    rw [← this n]; exact ho
  | exit id => intro bid s; exact Sim.pure rfl
  | ret => intro bid s; exact Sim.pure rfl
  | _ => intro bid s; exact Sim.fail
def mkE : Nat → Nat → List (Nat × D) → List D
  | 0, _, _ => []
  | n + 1, i, l => (match l.find? (fun p => p.1 == i) with | some p => p.2 | none => .any) :: mkE n (i + 1) l
def loopsOf : Code → List Code
  | .seq a b => loopsOf a ++ loopsOf b
  | .cond _ a b => loopsOf a ++ loopsOf b
  | .block _ a => loopsOf a
  | .loop a => a :: loopsOf a
  | _ => []
def lb (fn : Func) (k : Nat) : Code := match fn.body with | some c => ((loopsOf c)[k]?).getD .skip | none => .skip
def z5v (h : Option Hint) (s : LSt) : LSt :=
  match h with
  | some h => ⟨keepEnv h.out 0 s.env, z13 (rowsOf s.rl) (dedup (reach (rowsOf s.rl) (keepEnv h.out 0 s.env) ++ h.rows))⟩
  | none => s
theorem zi4 (h : Option Hint) (s : LSt) : (z5v h s).st = s.st.keepOut h := by cases h <;> rfl
def OutL.keep (h : Option Hint) : OutL → OutL
  | .normal s => .normal (z5v h s)
  | .exit i s => .exit i (z5v h s)
  | .ret s => .ret (z5v h s)
theorem OutL.keep_out (h : Option Hint) (o : OutL) : (o.keep h).out = o.out.keep h := by
  cases o <;> simp only [OutL.keep, OutL.out, Out.keep, zi4]
def AllC (X : Ctx) : List Known → Prop
  | [] => True
  | [c] => Runs X c.f c.args c.prows c.ret
  | c :: cs => Runs X c.f c.args c.prows c.ret ∧ AllC X cs
def AllL (X : Ctx) (f : FuncId) : List LoopAt → Prop
  | [] => True
  | [l] => WpL X f l.bid l.body l.s.st (fun o => o = l.out.out)
  | l :: ls => WpL X f l.bid l.body l.s.st (fun o => o = l.out.out) ∧ AllL X f ls
theorem z9h : ∀ {l : List Known}, AllC X l ↔ ∀ c ∈ l, Runs X c.f c.args c.prows c.ret
  | [] => by simp [AllC]
  | [p] => by simp [AllC]
  | p :: q :: l => by
    simp only [AllC]
    rw [z9h (l := q :: l), List.forall_mem_cons (a := p)]
theorem z9i {f : FuncId} : ∀ {l : List LoopAt}, AllL X f l ↔ ∀ c ∈ l, WpL X f c.bid c.body c.s.st (fun o => o = c.out.out)
  | [] => by simp [AllL]
  | [p] => by simp [AllL]
  | p :: q :: l => by
    simp only [AllL]
    rw [z9i (l := q :: l), List.forall_mem_cons (a := p)]
theorem z7a {α : Type} {p : α → Nat → Prop} (hm : ∀ a k k', k ≤ k' → p a k → p a k') : ∀ (l : List α), (∀ a ∈ l, ∃ K, p a K) → ∃ K, ∀ a ∈ l, p a K
  | [], _ => ⟨0, by simp⟩
  | a :: l, h => by
    obtain ⟨K1, h1⟩ := h a (by simp)
    obtain ⟨K2, h2⟩ := z7a hm l fun b hb => h b (by simp [hb])
    refine ⟨max K1 K2, fun b hb => ?_⟩
    rcases List.mem_cons.1 hb with rfl | hb
    · exact hm b K1 _ (by omega) h1
    · exact hm b K2 _ (by omega) (h2 b hb)
theorem good_of {f : FuncId} {l : VL} (ho : AllP l.obs) (hc : AllC X l.calls) (hl : AllL X f l.loops) : ∃ K, ∀ k n, K ≤ k → K ≤ n → Good (evalFn X k) (fun bid body st => zw (X.keep f bid) (z4 X (evalFn X k) f n bid body) n st) l := by
  obtain ⟨K1, h1⟩ := z7a (p := fun (c : Known) K => ∀ k, K ≤ k → evalFn X k c.f c.args c.prows = some c.ret) (fun a k k' hk h j hj => h j (by omega)) l.calls (fun c hcm => z9h.1 hc c hcm)
  obtain ⟨K2, h2⟩ := z7a (p := fun (c : LoopAt) K => ∀ k n m, K ≤ k → K ≤ n → K ≤ m → zw (X.keep f c.bid) (z4 X (evalFn X k) f n c.bid c.body) m c.s.st = some c.out.out) (fun a k k' hk h i j m hi hj hm => h i j m (by omega) (by omega) (by omega)) l.loops (fun c hcm => by
    obtain ⟨K, out, e, h⟩ := z9i.1 hl c hcm
    subst e
    exact ⟨K, h⟩)
  exact ⟨max K1 K2, fun k n hk hn => ⟨z9j.1 ho, fun c hcm => h1 c hcm k (by omega), fun c hcm => h2 c hcm k n n (by omega) (by omega) (by omega)⟩⟩
theorem WpC.path {f : FuncId} {bid : Nat} {c : Code} {vs vs' : VS} {o : OutL} {l : VL} {Q : Out → Prop} (h : codeV X f bid c s vs = .ok o vs' l) (ho : AllP l.obs) (hc : AllC X l.calls) (hl : AllL X f l.loops) (hq : Q o.out) : WpC X f bid c s.st Q := by
  obtain ⟨K, hK⟩ := good_of ho hc hl
  exact ⟨K, o.out, hq, fun k n hk hn => zac c bid s vs o vs' l h (hK k n hk hn)⟩
theorem WpL.congr {f : FuncId} {bid : Nat} {body : Code} {s s' : LSt} {Q : Out → Prop} (h : keepL (X.keep f bid) s = keepL (X.keep f bid) s') (hw : WpL X f bid body s.st Q) : WpL X f bid body s'.st Q := by
  obtain ⟨K, out, hq, h1⟩ := hw
  refine ⟨K + 1, out, hq, fun k n m hk hn hm => ?_⟩
  have := h1 k n m (by omega) (by omega) (by omega)
  obtain ⟨m, rfl⟩ : ∃ m', m = m' + 1 := ⟨m - 1, by omega⟩
  simp only [zw] at this ⊢
  rwa [← z5u, ← h, z5u]
theorem WpL.path {f : FuncId} {bid : Nat} {body : Code} {vs vs' : VS} {o : OutL} {l : VL} {Q : Out → Prop} (h : codeV X f bid body (keepL (X.keep f bid) s) vs = .ok o vs' l) (ho : AllP l.obs) (hc : AllC X l.calls) (hl : AllL X f l.loops)
    (hq : match o with | .normal s' => WpL X f bid body s'.st Q | o => Q (o.keep (X.keep f bid)).out) : WpL X f bid body s.st Q := by
  refine WpL.round ?_
  rw [← z5u]
  refine WpC.path h ho hc hl ?_
  cases o with
  | normal s' => exact hq
  | exit i s' => simp only at hq; rw [OutL.keep_out] at hq; exact hq
  | ret s' => simp only at hq; rw [OutL.keep_out] at hq; exact hq
theorem inL_get : ∀ (ps : List Row) (b i : Nat), lget i (inL b ps) = if b ≤ i then ps[i - b]? else none
  | [], b, i => by simp [inL, lget]
  | p :: ps, b, i => by
    simp only [inL, lget, inL_get ps (b + 1) i]
    by_cases h : i = b
    · subst h; simp
    · rw [if_neg h]
      by_cases h2 : b + 1 ≤ i
      · have : i - b = (i - (b + 1)) + 1 := by omega
        rw [if_pos h2, if_pos (by omega), this]; simp
      · rw [if_neg h2, if_neg (by omega)]
theorem zlb (ps : List Row) : rowsIn ps = rowsOf (inL PB ps) := by
  funext i
  rw [zd, inL_get]
  rfl
theorem Runs.path {f : FuncId} {fn : Func} {args : List D} {prows : List Row} {vs vs' : VS} {r : Ret} {l : VL} (hp : X.prim f args prows = none) (hf : X.ft f = some fn) (h : fnV X f fn args prows vs = .ok r vs' l) (ho : AllP l.obs) (hc : AllC X l.calls) (hl : AllL X f l.loops) : Runs X f args prows r := by
  obtain ⟨K, hK⟩ := good_of ho hc hl
  refine ⟨K + 1, fun k hk => ?_⟩
  obtain ⟨k, rfl⟩ : ∃ k', k = k' + 1 := ⟨k - 1, by omega⟩
  have hg := hK k k (by omega) (by omega)
  unfold fnV at h
  cases hb : fn.body with
  | none => rw [hb] at h; cases h
  | some c =>
    rw [hb] at h
    simp only at h
    have key : Sim (evalFn X k) (fun bid body st => zw (X.keep f bid) (z4 X (evalFn X k) f k bid body) k st) (vbind (codeV X f 0 c (bindInL prows.length ⟨args ++ List.replicate (fn.ntmps - args.length) .und, inL PB prows⟩)) fun o => match o with
        | .ret s => ofO (match mapO (resD X s.st) fn.results.toList with | some ds => export_ prows.length s.st (oneOr ds) | none => none)
        | .normal s => ofO (match mapO (resD X s.st) fn.results.toList with | some ds => export_ prows.length s.st (oneOr ds) | none => none)
        | _ => vfail) (evalFn X (k + 1) f args prows) id := by
      refine Sim.bind (zac c 0 _) fun o ho => ?_
      have hst : (bindInL prows.length ⟨args ++ List.replicate (fn.ntmps - args.length) .und, inL PB prows⟩).st = bindIn prows.length { env := args ++ List.replicate (fn.ntmps - args.length) .und, rows := rowsIn prows } := by rw [zet, zlb]; rfl
      rw [hst] at ho
      cases o with
      | ret s' => exact Sim.opt' fun x hx => by simp only [evalFn, hp, hf, hb, ho, OutL.out]; exact hx
      | normal s' => exact Sim.opt' fun x hx => by simp only [evalFn, hp, hf, hb, ho, OutL.out]; exact hx
      | exit i s' => exact Sim.fail
    exact key vs r vs' l h hg
end
end Go.PR

end

section
namespace Go.PR
open Go
def roundV (X : Ctx) (f : FuncId) (bid : Nat) (body : Code) (s : LSt) : V OutL :=
  vbind (codeV X f bid body (keepL (X.keep f bid) s)) fun o => match o with
    | .normal s' => vpure (.normal (keepL (X.keep f bid) s'))
    | o => vpure (o.keep (X.keep f bid))
theorem zla {X : Ctx} {f : FuncId} {bid : Nat} {body : Code} {s : LSt} {vs vs' : VS} {o : OutL} {l : VL} {Q : Out → Prop} (h : roundV X f bid body s vs = .ok o vs' l) (ho : AllP l.obs) (hc : AllC X l.calls) (hl : AllL X f l.loops)
    (hq : match o with | .normal s' => WpL X f bid body s'.st Q | o => Q o.out) : WpL X f bid body s.st Q := by
  unfold roundV vbind at h
  cases e : codeV X f bid body (keepL (X.keep f bid) s) vs with
  | stop w l1 => rw [e] at h; cases h
  | ok o1 v1 l1 =>
    rw [e] at h
    have hl1 : l1.app ⟨[], [], []⟩ = l1 := by simp [VL.app]
    cases o1 with
    | normal s' =>
      simp only [vpure, hl1] at h
      cases h
      exact WpL.path e ho hc hl (WpL.congr (zbh _ _) hq)
    | exit i s' =>
      simp only [vpure, hl1] at h
      cases h
      exact WpL.path e ho hc hl hq
    | ret s' =>
      simp only [vpure, hl1] at h
      cases h
      exact WpL.path e ho hc hl hq
end Go.PR

end

section
namespace Go.PR
open Go
theorem AllP.c {p : Prop} {ps : List Prop} (h : p) (hs : AllP ps) : AllP (p :: ps) := by
  cases ps with
  | nil => exact h
  | cons q qs => exact ⟨h, hs⟩
theorem AllC.c {X : Ctx} {p : Known} {ps : List Known} (h : Runs X p.f p.args p.prows p.ret) (hs : AllC X ps) : AllC X (p :: ps) := by
  cases ps with
  | nil => exact h
  | cons q qs => exact ⟨h, hs⟩
theorem AllL.c {X : Ctx} {f : FuncId} {p : LoopAt} {ps : List LoopAt} (h : WpL X f p.bid p.body p.s.st (fun o => o = p.out.out)) (hs : AllL X f ps) : AllL X f (p :: ps) := by
  cases ps with
  | nil => exact h
  | cons q qs => exact ⟨h, hs⟩
theorem not_t {b : Bool} (h : b = false) : (!b) = true := by rw [h]; rfl
theorem not_f {b : Bool} (h : b = true) : (!b) = false := by rw [h]; rfl
theorem PA {p : Prop} {ps : List Prop} (h : p) (hs : AllP ps) : AllP (p :: ps) := AllP.c h hs
theorem PC {X : Ctx} {f : FuncId} {args : List D} {prows : List Row} {ret : Ret} {ps : List Known} (h : Runs X f args prows ret) (hs : AllC X ps) : AllC X (⟨f, args, prows, ret⟩ :: ps) := AllC.c h hs
theorem PN {X : Ctx} : AllC X [] := trivial
theorem LC {X : Ctx} {f : FuncId} {bid : Nat} {body : Code} {s : LSt} {o : OutL} {ps : List LoopAt} (h : WpL X f bid body s.st (fun x => x = o.out)) (hs : AllL X f ps) : AllL X f (⟨bid, body, s, o⟩ :: ps) := AllL.c h hs
theorem LN {X : Ctx} {f : FuncId} : AllL X f [] := trivial
theorem RQ {X : Ctx} {f : FuncId} {bid : Nat} {body : Code} {s : LSt} {Q : Out → Prop} (ds : List Bool) (o : OutL) (obs : List Prop) {cs : List Known} {ls : List LoopAt} (h : roundV X f bid body s ⟨ds, cs.map Known.ret, ls.map LoopAt.out⟩ = .ok o ⟨[], [], []⟩ ⟨obs, cs, ls⟩) (ho : AllP obs) (hc : AllC X cs) (hl : AllL X f ls)
    (hq : match o with | .normal s' => WpL X f bid body s'.st Q | o => Q o.out) : WpL X f bid body s.st Q := zla h ho hc hl (by cases o <;> exact hq)
theorem RF {X : Ctx} {f : FuncId} {fn : Func} {args : List D} {prows : List Row} {r : Ret} (hp : X.prim f args prows = none) (hf : X.ft f = some fn) (ds : List Bool) (obs : List Prop) {cs : List Known} {ls : List LoopAt} (h : fnV X f fn args prows ⟨ds, cs.map Known.ret, ls.map LoopAt.out⟩ = .ok r ⟨[], [], []⟩ ⟨obs, cs, ls⟩) (ho : AllP obs) (hc : AllC X cs) (hl : AllL X f ls) :
    Runs X f args prows r := Runs.path hp hf h ho hc hl
theorem PO {p : Prop} {ps : List Prop} (hs : AllP ps) (h : p := by first | omega | (simp; done) | (simp at *; omega)) : AllP (p :: ps) := AllP.c h hs
theorem RS {X : Ctx} {f : FuncId} {bid : Nat} {body : Code} {s : LSt} {Q : Out → Prop} (ds : List Bool) (o : OutL) (obs : List Prop) {cs : List Known} {ls : List LoopAt} (ho : AllP obs) (hc : AllC X cs) (hl : AllL X f ls)
    (hq : match o with | .normal s' => WpL X f bid body s'.st Q | o => Q o.out) (h : roundV X f bid body s ⟨ds, cs.map Known.ret, ls.map LoopAt.out⟩ = .ok o ⟨[], [], []⟩ ⟨obs, cs, ls⟩ := by kernel_rfl) : WpL X f bid body s.st Q := by cases o <;> exact RQ ds _ obs h ho hc hl hq
theorem RG {X : Ctx} {f : FuncId} {fn : Func} {args : List D} {prows : List Row} {r : Ret} (hf : X.ft f = some fn) (ds : List Bool) (obs : List Prop) {cs : List Known} {ls : List LoopAt} (ho : AllP obs) (hc : AllC X cs) (hl : AllL X f ls)
    (hp : X.prim f args prows = none := by kernel_rfl) (h : fnV X f fn args prows ⟨ds, cs.map Known.ret, ls.map LoopAt.out⟩ = .ok r ⟨[], [], []⟩ ⟨obs, cs, ls⟩ := by kernel_rfl) : Runs X f args prows r := RF hp hf ds obs h ho hc hl
end Go.PR

end

section
namespace Go.PR.S
open Go Go.PR
abbrev rowR (xs : List Int) : Ret := ⟨.rsl 600000 0 xs.length, [], [⟨true, .ints .i64 xs⟩]⟩
abbrev intR (r : Int) : Ret := ⟨.int .i64 r, [], []⟩
abbrev boolR (b : Bool) : Ret := ⟨.bool b, [], []⟩
abbrev iD (x : Int) : D := .int .i64 x
abbrev lD (w : List Int) : D := .immI .i64 w
abbrev alD (n : Int) (d : List Int) : D := .agg [.int .i64 n, .immI .i64 d]
abbrev B40 : Nat := 1048576
abbrev auD (n s f : Int) (N : List (List Int)) : D := .agg [.int .i64 n, .int .i64 s, .int .i64 f, .imm2 .i64 N]
abbrev maD (n s : Int) (fs : List Bool) (N : List (List Int)) : D := .agg [.int .i64 n, .int .i64 s, .immB fs, .imm2 .i64 N]
end Go.PR.S

end
