/- The evaluator for unknown values: operations that make or turn rows, calls. -/
import Derived.Test.YtdheehhnpjkdbaaDoorFwV2
set_option linter.unusedVariables false
set_option linter.unusedSimpArgs false
namespace Go.PR
open Go

def LSt.put (dst : Option Tmp) (d : D) (s : LSt) : LSt := ⟨envD dst d s.env, s.rl⟩
def LSt.setRow (r : Nat) (row : Row) (s : LSt) : LSt := ⟨s.env, lset r row s.rl⟩
def LSt.newRow (id : Nat) (row : Row) (s : LSt) : LSt := ⟨D.renL (killF id) s.env, (id, row) :: lren (killF id) (ldel (· == id) s.rl)⟩
def LSt.move (a b : Nat) (s : LSt) : LSt := ⟨D.renL (mvF a b) s.env, lmove a b s.rl⟩
def LSt.forget (r : Nat) (s : LSt) : LSt := ⟨s.env, ldel (· == r) s.rl⟩
def LSt.drop (r : Nat) (s : LSt) : LSt := ⟨D.renL (killF r) s.env, lren (killF r) (ldel (· == r) s.rl)⟩

def lfreeze (Z : List Nat) : List (Nat × Row) → List (Nat × Row)
  | [] => []
  | (j, r) :: l => (j, if Z.contains j then ⟨false, r.c⟩ else r) :: lfreeze Z l

def LSt.freeze (Z : List Nat) (s : LSt) : LSt := ⟨s.env, lfreeze Z s.rl⟩

theorem put_st (dst : Option Tmp) (d : D) (s : LSt) : (s.put dst d).st = s.st.setD dst d := by cases dst <;> rfl
theorem setRow_st (r : Nat) (row : Row) (s : LSt) : (s.setRow r row).st = s.st.setRow r row := (setRow_list r row s.env s.rl).symm
theorem newRow_st (r : Nat) (row : Row) (s : LSt) : (s.newRow r row).st = s.st.newRow r row := (newRow_list r row s.env s.rl).symm
theorem move_st (a b : Nat) (s : LSt) : (s.move a b).st = s.st.move a b := (move_list a b s.env s.rl).symm
theorem forget_st (a : Nat) (s : LSt) : (s.forget a).st = s.st.forget a := (forget_list a s.env s.rl).symm
theorem drop_st (a : Nat) (s : LSt) : (s.drop a).st = s.st.drop a := (drop_list a s.env s.rl).symm

theorem lget_freeze (Z : List Nat) (L : List (Nat × Row)) (i : Nat) : lget i (lfreeze Z L) = match lget i L with | some r => if Z.contains i then some ⟨false, r.c⟩ else some r | none => none := by
  induction L with
  | nil => rfl
  | cons a L ih =>
    obtain ⟨j, r⟩ := a
    simp only [lfreeze, lget]
    by_cases h : i = j
    · subst h; simp only [if_true]; split <;> rfl
    · simp only [if_neg h]; exact ih

theorem freeze_st (Z : List Nat) (s : LSt) : (s.freeze Z).st = s.st.freeze Z := by
  unfold LSt.freeze LSt.st St.freeze
  congr 1
  funext i
  simp only [rowsOf_get, lget_freeze]
  cases lget i s.rl with
  | none => rfl
  | some r => simp only

theorem st_rows (s : LSt) (i : Nat) : s.st.rows i = lget i s.rl := rowsOf_get s.rl i

def bindAtL (k : NK) (i hm : Nat) (s : LSt) : LSt :=
  match s.env.getD i .any with
  | .rsl r 0 n => if unbound r && (lget r s.rl).isSome && r != hm then s.move r hm else s
  | .nil k' => match emptyC (if k' = .unk then k else k') with
    | some c => ⟨(s.newRow hm ⟨true, c⟩).env.set i (.rsl hm 0 0), (s.newRow hm ⟨true, c⟩).rl⟩
    | none => s
  | _ => s

theorem bindAt_st (k : NK) (i hm : Nat) (s : LSt) : (bindAtL k i hm s).st = bindAt k i hm s.st := by
  unfold bindAtL bindAt
  have he : s.st.env = s.env := rfl
  rw [he]
  cases s.env.getD i .any with
  | rsl r off n =>
    cases off with
    | zero =>
      simp only [st_rows]
      split
      · exact move_st _ _ _
      · rfl
    | succ off => rfl
  | nil k' =>
    simp only
    generalize emptyC (if k' = NK.unk then k else k') = oc
    cases oc with
    | some c => simp only; rw [← newRow_st]; rfl
    | none => rfl
  | _ => rfl

def bindAllL (hm : Nat → Nat) : (n i j : Nat) → LSt → LSt
  | 0, _, _, s => s
  | n + 1, i, j, s => bindAllL hm n (i + 1) (j + 1) (bindAtL .unk i (hm j) s)

theorem bindAll_st (hm : Nat → Nat) : ∀ (n i j : Nat) (s : LSt), (bindAllL hm n i j s).st = bindAll hm n i j s.st
  | 0, _, _, _ => rfl
  | n + 1, i, j, s => by simp only [bindAllL, bindAll]; rw [bindAll_st hm n, bindAt_st]

def boxRowL (id : Nat) (cells : List D) (s : LSt) : LSt :=
  let s1 := bindAllL (home id) cells.length s.env.length 0 ⟨s.env ++ cells, s.rl⟩
  LSt.newRow id ⟨true, .var (D.renL (killF id) (s1.env.drop s.env.length))⟩ ⟨s1.env.take s.env.length, s1.rl⟩

theorem boxRow_st (id : Nat) (cells : List D) (s : LSt) : (boxRowL id cells s).st = boxRow id cells s.st := by
  unfold boxRowL boxRow
  dsimp only
  rw [newRow_st]
  have h := bindAll_st (home id) cells.length s.env.length 0 ⟨s.env ++ cells, s.rl⟩
  have h2 : s.st.push cells = (⟨s.env ++ cells, s.rl⟩ : LSt).st := rfl
  have h3 : s.st.env.length = s.env.length := rfl
  rw [h2, h3, ← h]
  rfl

def storeVarL (r off : Nat) (cells : List D) (s : LSt) : Option LSt :=
  let s1 := bindAllL (fun j => home r (off + j)) cells.length s.env.length 0 ⟨s.env ++ (cells ++ [.ptr r off]), s.rl⟩
  match s1.env.getD (s.env.length + cells.length) .any with
  | .ptr r' off' => match lget r' s1.rl with
    | some ⟨true, .var old⟩ => if off' + cells.length ≤ old.length then some (LSt.setRow r' ⟨true, .var (setCells old off' ((s1.env.drop s.env.length).take cells.length))⟩ ⟨s1.env.take s.env.length, s1.rl⟩) else none
    | _ => none
  | _ => none

theorem storeVar_st (r off : Nat) (cells : List D) (s : LSt) : storeVarRow r off cells s.st = (storeVarL r off cells s).map LSt.st := by
  unfold storeVarL storeVarRow
  dsimp only
  have h := bindAll_st (fun j => home r (off + j)) cells.length s.env.length 0 ⟨s.env ++ (cells ++ [.ptr r off]), s.rl⟩
  have h2 : s.st.push (cells ++ [.ptr r off]) = (⟨s.env ++ (cells ++ [.ptr r off]), s.rl⟩ : LSt).st := rfl
  have h3 : s.st.env.length = s.env.length := rfl
  rw [h2, h3, ← h]
  generalize bindAllL (fun j => home r (off + j)) cells.length s.env.length 0 ⟨s.env ++ (cells ++ [.ptr r off]), s.rl⟩ = s1
  have he : s1.st.env = s1.env := rfl
  rw [he]
  cases s1.env.getD (s.env.length + cells.length) .any with
  | ptr r' off' =>
    simp only [st_rows]
    cases lget r' s1.rl with
    | none => rfl
    | some row =>
      obtain ⟨wr, c⟩ := row
      cases wr with
      | false => rfl
      | true =>
        cases c with
        | var old =>
          simp only
          split
          · simp only [Option.map_some, setRow_st]; rfl
          · rfl
        | _ => rfl
  | _ => rfl

def mapV {α β : Type} (f : α → V β) : List α → V (List β)
  | [] => vpure []
  | a :: as => vbind (f a) fun b => vbind (mapV f as) fun bs => vpure (b :: bs)

def reifyV (rl : List (Nat × Row)) (Z : List Nat) : Nat → D → V D
  | 0, _ => vfail
  | n + 1, d => match d with
    | .fn f cap => vbind (mapV (reifyV rl Z n) cap) fun c => vpure (.fn f c)
    | .agg cs => vbind (mapV (reifyV rl Z n) cs) fun c => vpure (.agg c)
    | .tup cs => vbind (mapV (reifyV rl Z n) cs) fun c => vpure (.tup c)
    | .rsl r off m => if Z.contains r then match lget r rl with
      | some row => vbind (need (off + m ≤ row.c.len)) fun _ => immV row.c off m
      | none => vfail else vfail
    | .ptr r off => if Z.contains r then match lget r rl with
      | some ⟨_, .var cells⟩ => vbind (mapV (reifyV rl Z n) (cells.drop off)) fun c => vpure (.pim c)
      | _ => vfail else vfail
    | .pel r j => if Z.contains r then match lget r rl with
      | some row => if row.c.isVar then vfail else vbind (need (j < row.c.len)) fun _ => vpure (.pim [row.c.getT j])
      | none => vfail else vfail
    | d => vpure d

def settleV (s : LSt) (d : D) : V (D × LSt) :=
  vbind (reifyV s.rl (reach (rowsOf s.rl) [d]) allRows d) fun d' => vpure (d', if (reach (rowsOf s.rl) [d]).isEmpty then s else s.freeze (reach (rowsOf s.rl) [d]))

def setV (c : Cont) (j : Nat) (d : D) : V Cont :=
  match c, d with
  | .ints k xs, .int k' n => if k = k' then vbind (need (j < xs.length)) fun _ => vpure (.ints k (xs.set j n)) else vfail
  | .bools xs, .bool b => vbind (need (j < xs.length)) fun _ => vpure (.bools (xs.set j b))
  | .ints2 k xss, .immI k' xs => if k = k' then vbind (need (j < xss.length)) fun _ => vpure (.ints2 k (xss.set j xs)) else vfail
  | .ints2 k xss, .nil _ => vbind (need (j < xss.length)) fun _ => vpure (.ints2 k (xss.set j []))
  | .gen els, d => if d.plain then vbind (need (j < els.length)) fun _ => vpure (.gen (els.set j d)) else vfail
  | _, _ => vfail

def storeV (i : TI) (addr val : D) (s : LSt) : V LSt :=
  match addr with
  | .ptr r off => if val.known && val.cells.length == i.size && val.cells.all D.isCell then ofO (storeVarL r off val.cells s) else vfail
  | .pel r j => if i.size = 1 ∧ i.agg = false then vbind (settleV s val) fun p => match lget r p.2.rl with
      | some ⟨true, c⟩ => if c.isVar then vfail else vbind (setV c j p.1) fun c' => vpure (p.2.setRow r ⟨true, c'⟩)
      | _ => vfail
    else vfail
  | _ => vfail

def buildCV (nk : NK) : List D → Cont → LSt → V (Cont × LSt)
  | [], c, s => vpure (c, s)
  | d :: rest, c, s => vbind (settleV s d) fun p => match c, p.1 with
      | .ints k xs, .int k' n => if k = k' then buildCV nk rest (.ints k (xs ++ [n])) p.2 else vfail
      | .bools xs, .bool b => buildCV nk rest (.bools (xs ++ [b])) p.2
      | .ints2 k xss, .immI k' xs => if k = k' then buildCV nk rest (.ints2 k (xss ++ [xs])) p.2 else vfail
      | .ints2 k xss, .nil _ => buildCV nk rest (.ints2 k (xss ++ [[]])) p.2
      | .gen els, d' => if d'.plain then buildCV nk rest (.gen (els ++ [d'])) p.2 else vfail
      | _, _ => vfail

/-- Told: is it the whole? -/
def subV (c : Cont) (off n : Nat) : V Cont :=
  vbind (vtell 1 (off = 0 ∧ n = c.len)) fun b => if b then vbind (need (off = 0 ∧ n = c.len)) fun _ => (if c.isVar then vfail else vpure c) else vbind (need (off + n ≤ c.len)) fun _ => match c with
    | .ints k xs => vpure (.ints k ((xs.drop off).take n))
    | .bools xs => vpure (.bools ((xs.drop off).take n))
    | .ints2 k xs => vpure (.ints2 k ((xs.drop off).take n))
    | .gen xs => vpure (.gen ((xs.drop off).take n))
    | .var _ => vfail

def srcV (rl : List (Nat × Row)) (y : D) : V (Option Cont) :=
  match y with
  | .nil _ => vpure none
  | .rsl r off n => match lget r rl with
    | some row => if row.c.isVar then vfail else vbind (need (off + n ≤ row.c.len)) fun _ => vbind (subV row.c off n) fun c => vpure (some c)
    | none => vfail
  | d => match d.cont with
    | some c => vpure (some c)
    | none => vfail

section
variable {X : Ctx} {cl : CL'} {lp : LP'} {s : LSt}

theorem mapV_sim {α β : Type} {f : α → V β} {f0 : α → Option β} (h : ∀ a, Sim cl lp (f a) (f0 a) id) : ∀ (l : List α), Sim cl lp (mapV f l) (mapO f0 l) id
  | [] => Sim.pure rfl
  | a :: l => Sim.bind (h a) fun b hb => Sim.bind (mapV_sim h l) fun bs hbs => Sim.pure (by simp only [id] at hb hbs; simp only [mapO, hb, hbs]; rfl)

theorem reifyV_sim (Z : List Nat) : ∀ (n : Nat) (d : D), Sim cl lp (reifyV s.rl Z n d) (reify s.st.rows Z n d) id
  | 0, d => Sim.fail
  | n + 1, d => by
    have ih := reifyV_sim Z n
    cases d with
    | fn f cap => exact Sim.bind (mapV_sim ih cap) fun c hc => Sim.pure (by simp only [id] at hc; simp only [reify, hc]; rfl)
    | agg cs => exact Sim.bind (mapV_sim ih cs) fun c hc => Sim.pure (by simp only [id] at hc; simp only [reify, hc]; rfl)
    | tup cs => exact Sim.bind (mapV_sim ih cs) fun c hc => Sim.pure (by simp only [id] at hc; simp only [reify, hc]; rfl)
    | rsl r off m =>
      simp only [reifyV]
      split
      · rename_i hZ
        split
        · rename_i row hrow
          refine Sim.needs fun h => ?_
          have : reify s.st.rows Z (n + 1) (.rsl r off m) = row.c.imm off m := by simp only [reify, hZ, if_true, st_rows, hrow, if_pos h]
          rw [this]; exact immV_sim _ _ _
        · exact Sim.fail
      · exact Sim.fail
    | ptr r off =>
      simp only [reifyV]
      split
      · rename_i hZ
        split
        · rename_i wr cells hrow
          refine Sim.bind (mapV_sim ih (cells.drop off)) fun c hc => Sim.pure ?_
          simp only [id] at hc
          simp only [reify, hZ, if_true, st_rows, hrow, hc]; rfl
        · exact Sim.fail
      · exact Sim.fail
    | pel r j =>
      simp only [reifyV]
      split
      · rename_i hZ
        split
        · rename_i row hrow
          split
          · exact Sim.fail
          · rename_i hv
            refine Sim.needs fun h => Sim.pure ?_
            simp only [reify, hZ, if_true, st_rows, hrow, if_neg hv, Cont.get_getT h]; rfl
        · exact Sim.fail
      · exact Sim.fail
    | _ => exact Sim.pure rfl

def pairSt {α : Type} (p : α × LSt) : α × St := (p.1, p.2.st)

theorem settleV_sim (d : D) : Sim cl lp (settleV s d) (settle s.st d) pairSt := by
  unfold settleV
  refine Sim.bind (reifyV_sim _ _ d) fun d' hd => Sim.pure ?_
  simp only [id] at hd
  unfold settle
  have e : s.st.rows = rowsOf s.rl := rfl
  dsimp only
  rw [e] at hd ⊢
  rw [hd]
  simp only [Option.map_some, pairSt]
  split <;> simp [freeze_st]

theorem setV_sim (c : Cont) (j : Nat) (d : D) : Sim cl lp (setV c j d) (c.set j d) id := by
  unfold setV
  split
  · split
    · rename_i e; subst e; exact Sim.needs fun h => Sim.pure (by simp [Cont.set, h])
    · exact Sim.fail
  · exact Sim.needs fun h => Sim.pure (by simp [Cont.set, h])
  · split
    · rename_i e; subst e; exact Sim.needs fun h => Sim.pure (by simp [Cont.set, h])
    · exact Sim.fail
  · exact Sim.needs fun h => Sim.pure (by simp [Cont.set, h])
  · split
    · rename_i e; exact Sim.needs fun h => Sim.pure (by simp [Cont.set, h, e])
    · exact Sim.fail
  · exact Sim.fail

theorem storeV_sim (i : TI) (addr val : D) : Sim cl lp (storeV i addr val s) (storeD X s.st i addr val) LSt.st := by
  unfold storeV
  split
  · rename_i r off
    split
    · rename_i hc
      refine Sim.opt' fun x hx => ?_
      simp only [storeD, if_pos hc, storeVar_st, hx]; rfl
    · exact Sim.fail
  · rename_i r j
    split
    · rename_i hc
      refine Sim.bind (settleV_sim val) fun p hp => ?_
      split
      · rename_i c hrow
        split
        · exact Sim.fail
        · rename_i hv
          refine Sim.bind (setV_sim c j p.1) fun c' hc' => Sim.pure ?_
          simp only [id] at hc'
          simp only [storeD, if_pos hc, hp, pairSt, st_rows, hrow, if_neg hv, hc', Option.map_some, setRow_st]
      · exact Sim.fail
    · exact Sim.fail
  · exact Sim.fail

def bstep (X : Ctx) (nk : NK) (ds : List D) (c : Cont) (d' : D) (st : St) : Option (Cont × St) :=
  match c, d' with
  | .ints k xs, .int k' n => if k = k' then buildC X nk ds (.ints k (xs ++ [n])) st else none
  | .bools xs, .bool b => buildC X nk ds (.bools (xs ++ [b])) st
  | .ints2 k xss, .immI k' xs => if k = k' then buildC X nk ds (.ints2 k (xss ++ [xs])) st else none
  | .ints2 k xss, .nil _ => buildC X nk ds (.ints2 k (xss ++ [[]])) st
  | .gen els, d' => if d'.plain then buildC X nk ds (.gen (els ++ [d'])) st else none
  | _, _ => none

theorem buildC_cons {nk : NK} {d d' : D} {ds : List D} {c : Cont} {st st' : St} (h : settle st d = some (d', st')) : buildC X nk (d :: ds) c st = bstep X nk ds c d' st' := by
  simp only [buildC, h]
  cases c <;> cases d' <;> rfl

theorem buildCV_sim (nk : NK) : ∀ (ds : List D) (c : Cont) (s : LSt), Sim cl lp (buildCV nk ds c s) (buildC X nk ds c s.st) pairSt
  | [], c, s => Sim.pure rfl
  | d :: ds, c, s => by
    refine Sim.bind (settleV_sim d) fun p hp => ?_
    obtain ⟨d', s'⟩ := p
    simp only [pairSt] at hp
    rw [buildC_cons hp]
    unfold bstep
    dsimp only
    split
    · split
      · exact buildCV_sim nk ds _ s'
      · exact Sim.fail
    · exact buildCV_sim nk ds _ s'
    · split
      · exact buildCV_sim nk ds _ s'
      · exact Sim.fail
    · exact buildCV_sim nk ds _ s'
    · split
      · exact buildCV_sim nk ds _ s'
      · exact Sim.fail
    · exact Sim.fail

theorem subV_sim (c : Cont) (off n : Nat) : Sim cl lp (subV c off n) (c.sub off n) id := by
  unfold subV
  refine Sim.tell fun b => ?_
  cases b with
  | true =>
    simp only [if_true]
    refine Sim.needs fun h => ?_
    obtain ⟨rfl, rfl⟩ := h
    split
    · exact Sim.fail
    · rename_i hv
      cases c <;> first | exact (hv rfl).elim | exact Sim.pure (by simp [Cont.sub, subL, Cont.len])
  | false =>
    simp only [Bool.false_eq_true, if_false]
    refine Sim.needs fun h => ?_
    cases c <;> first | exact Sim.fail | exact Sim.pure (by simp only [Cont.sub]; rw [subL_eq _ _ _ (by simpa [Cont.len] using h)]; rfl)

theorem srcV_sim (y : D) : Sim cl lp (srcV s.rl y) (srcC s.st.rows y) id := by
  unfold srcV
  split
  · exact Sim.pure rfl
  · rename_i r off n
    split
    · rename_i row hrow
      split
      · exact Sim.fail
      · rename_i hv
        refine Sim.needs fun h => Sim.bind (subV_sim row.c off n) fun c hc => Sim.pure ?_
        simp only [id] at hc
        have hcond : ¬ (row.c.isVar = true ∨ ¬ off + n ≤ row.c.len) := by simp [hv, h]
        simp only [srcC, st_rows, hrow, if_neg hcond, hc]; rfl
    · exact Sim.fail
  · rename_i h1 h2
    split
    · rename_i c hc
      refine Sim.pure ?_
      unfold srcC
      split
      · exact (h1 _ rfl).elim
      · exact (h2 _ _ _ rfl).elim
      · rw [hc]; rfl
    · exact Sim.fail

end
end Go.PR
