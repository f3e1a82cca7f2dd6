/- Going through code: what a function, a piece of code, a list of operations comes to, whatever the fuel from some on. -/
import Derived.Test.YtdheehhnpjkdbaaDoorFwP
set_option linter.unusedVariables false
set_option linter.unusedSimpArgs false
namespace Go.PR
open Go

def Runs (X : Ctx) (f : FuncId) (args : List D) (prows : List Row) (r : Ret) : Prop := ∃ K, ∀ k, K ≤ k → evalFn X k f args prows = some r

def WpC (X : Ctx) (f : FuncId) (bid : Nat) (c : Code) (st : St) (Q : Out → Prop) : Prop := ∃ K out, Q out ∧ ∀ k n, K ≤ k → K ≤ n → evalCode X (evalFn X k) f n bid c st = some out

def WpL (X : Ctx) (f : FuncId) (bid : Nat) (body : Code) (st : St) (Q : Out → Prop) : Prop := ∃ K out, Q out ∧ ∀ k n m, K ≤ k → K ≤ n → K ≤ m → evalLoop (X.keep f bid) (evalCode X (evalFn X k) f n bid body) m st = some out

def WpO (X : Ctx) (ops : Array Oper) (l : List Oper) (st : St) (Q : St → Prop) : Prop := ∃ K s, Q s ∧ ∀ k, K ≤ k → stepsG X (evalFn X k) ops l st = some s

def WpD (X : Ctx) (ops : Array Oper) (clo : List Nat) (l : List Oper) (j : Nat) (st : St) (Q : St → Prop) : Prop := ∃ K s, Q s ∧ ∀ k, K ≤ k → stepsD X (evalFn X k) ops clo l j st = some s

section
variable {X : Ctx} {f : FuncId} {bid : Nat} {c : Code} {st : St} {Q Q' : Out → Prop}

def thenC (K : St → Prop) (Q : Out → Prop) : Out → Prop
  | .normal s => K s
  | o => Q o

def inBlk (id : Nat) (Q : Out → Prop) : Out → Prop
  | .exit j s => if j = id then Q (.normal s) else Q (.exit j s)
  | o => Q o

theorem WpC.skip (h : Q (.normal st)) : WpC X f bid .skip st Q := ⟨0, _, h, fun _ _ _ _ => rfl⟩
theorem WpC.label {l : Nat} (h : Q (.normal st)) : WpC X f bid (.label l) st Q := ⟨0, _, h, fun _ _ _ _ => rfl⟩
theorem WpC.exit {id : Nat} (h : Q (.exit id st)) : WpC X f bid (.exit id) st Q := ⟨0, _, h, fun _ _ _ _ => rfl⟩
theorem WpC.ret (h : Q (.ret st)) : WpC X f bid .ret st Q := ⟨0, _, h, fun _ _ _ _ => rfl⟩

theorem WpC.seq {a b : Code} (h : WpC X f bid a st (thenC (fun s => WpC X f bid b s Q) Q)) : WpC X f bid (.seq a b) st Q := by
  obtain ⟨K, out, h1, h2⟩ := h
  cases out with
  | normal s =>
    obtain ⟨K', out', h3, h4⟩ := h1
    exact ⟨max K K', out', h3, fun k n hk hn => by simp only [evalCode]; rw [h2 k n (by omega) (by omega)]; exact h4 k n (by omega) (by omega)⟩
  | exit i s => exact ⟨K, _, h1, fun k n hk hn => by simp only [evalCode]; rw [h2 k n (by omega) (by omega)]⟩
  | ret s => exact ⟨K, _, h1, fun k n hk hn => by simp only [evalCode]; rw [h2 k n (by omega) (by omega)]⟩

theorem WpC.cond {x : Operand} {a b : Code} {t : Bool} (hx : ev X st x = .bool t) (h : WpC X f bid (if t then a else b) st Q) : WpC X f bid (.cond x a b) st Q := by
  obtain ⟨K, out, h1, h2⟩ := h
  refine ⟨K, out, h1, fun k n hk hn => ?_⟩
  simp only [evalCode, hx]
  have := h2 k n hk hn
  cases t <;> simpa using this

theorem WpC.cond_split {x : Operand} {a b : Code} {t : Bool} (hx : ev X st x = .bool t) (h1 : t = true → WpC X f bid a st Q) (h2 : t = false → WpC X f bid b st Q) : WpC X f bid (.cond x a b) st Q := by
  refine WpC.cond hx ?_
  cases t
  · exact h2 rfl
  · exact h1 rfl

theorem WpC.block {id : Nat} {a : Code} (h : WpC X f id a st (inBlk id Q)) : WpC X f bid (.block id a) st Q := by
  obtain ⟨K, out, h1, h2⟩ := h
  cases out with
  | normal s => exact ⟨K, _, h1, fun k n hk hn => by simp only [evalCode]; rw [h2 k n (by omega) (by omega)]⟩
  | exit i s =>
    simp only [inBlk] at h1
    split at h1
    · rename_i e; exact ⟨K, _, h1, fun k n hk hn => by simp only [evalCode]; rw [h2 k n (by omega) (by omega)]; simp [e]⟩
    · rename_i e; exact ⟨K, _, h1, fun k n hk hn => by simp only [evalCode]; rw [h2 k n (by omega) (by omega)]; simp [e]⟩
  | ret s => exact ⟨K, _, h1, fun k n hk hn => by simp only [evalCode]; rw [h2 k n (by omega) (by omega)]⟩

theorem WpC.loop {a : Code} (h : WpL X f bid a st Q) : WpC X f bid (.loop a) st Q := by
  obtain ⟨K, out, h1, h2⟩ := h
  exact ⟨K, out, h1, fun k n hk hn => by simp only [evalCode]; exact h2 k n n hk hn hn⟩

theorem WpL.round {a : Code} (h : WpC X f bid a (st.keep (X.keep f bid)) (thenC (fun s => WpL X f bid a s Q) (fun o => Q (o.keep (X.keep f bid))))) : WpL X f bid a st Q := by
  obtain ⟨K, out, h1, h2⟩ := h
  cases out with
  | normal s =>
    obtain ⟨K', out', h3, h4⟩ := h1
    refine ⟨max K K' + 1, out', h3, fun k n m hk hn hm => ?_⟩
    obtain ⟨m, rfl⟩ : ∃ m', m = m' + 1 := ⟨m - 1, by omega⟩
    simp only [evalLoop]
    rw [h2 k n (by omega) (by omega)]
    exact h4 k n m (by omega) (by omega) (by omega)
  | exit i s =>
    refine ⟨K + 1, _, h1, fun k n m hk hn hm => ?_⟩
    obtain ⟨m, rfl⟩ : ∃ m', m = m' + 1 := ⟨m - 1, by omega⟩
    simp only [evalLoop]
    rw [h2 k n (by omega) (by omega)]
  | ret s =>
    refine ⟨K + 1, _, h1, fun k n m hk hn hm => ?_⟩
    obtain ⟨m, rfl⟩ : ∃ m', m = m' + 1 := ⟨m - 1, by omega⟩
    simp only [evalLoop]
    rw [h2 k n (by omega) (by omega)]

theorem WpC.mono (h : WpC X f bid c st Q) (hq : ∀ o, Q o → Q' o) : WpC X f bid c st Q' := let ⟨K, o, h1, h2⟩ := h; ⟨K, o, hq o h1, h2⟩
theorem WpL.mono (h : WpL X f bid c st Q) (hq : ∀ o, Q o → Q' o) : WpL X f bid c st Q' := let ⟨K, o, h1, h2⟩ := h; ⟨K, o, hq o h1, h2⟩

variable {ops : Array Oper} {id : Nat} {R : St → Prop}

theorem WpC.region (h : WpO X ops ops.toList st (fun s => Q (.normal s))) : WpC X f bid (.region id ops false) st Q := by
  obtain ⟨K, s, h1, h2⟩ := h
  exact ⟨K, _, h1, fun k n hk hn => by simp only [evalCode, evalRegion]; rw [if_neg (by simp), h2 k hk]; rfl⟩

theorem WpC.draw (hok : orderOK ops = true) {clo : List Nat} (hc : closL ops.toList [] = clo) {st0 : St} (hst : st.dropP (allP ops.toList) = st0) (h : WpD X ops clo ops.toList 0 st0 (fun s => Q (.normal (bindEnd X ops.toList s)))) : WpC X f bid (.region id ops true) st Q := by
  obtain ⟨K, s, h1, h2⟩ := h
  subst hc hst
  exact ⟨K, _, h1, fun k n hk hn => by simp only [evalCode, evalRegion, drawD, if_true, hok, h2 k hk, Option.map_some]⟩

theorem WpO.nil (h : R st) : WpO X ops [] st R := ⟨0, st, h, fun _ _ => rfl⟩

/-- An operation that calls nothing. -/
theorem WpO.op {o : Oper} {l : List Oper} {s : St} (hs : ∀ cl, stepG X cl ops o st = some s) (h : WpO X ops l s R) : WpO X ops (o :: l) st R := by
  obtain ⟨K, s', h1, h2⟩ := h
  exact ⟨K, s', h1, fun k hk => by simp only [stepsG, hs]; exact h2 k hk⟩

/-- A call whose callee is known. -/
theorem WpO.call {o : Oper} {l : List Oper} {g : FuncId} {args : List D} {prows : List Row} {r : Ret} (hg : Runs X g args prows r) {s : St} (hs : ∀ cl : FuncId → List D → List Row → Option Ret, cl g args prows = some r → stepG X cl ops o st = some s) (h : WpO X ops l s R) : WpO X ops (o :: l) st R := by
  obtain ⟨K, s', h1, h2⟩ := h
  obtain ⟨K', h3⟩ := hg
  exact ⟨max K K', s', h1, fun k hk => by simp only [stepsG, hs _ (h3 k (by omega))]; exact h2 k (by omega)⟩

theorem WpD.nil {clo : List Nat} {j : Nat} (h : R st) : WpD X ops clo [] j st R := ⟨0, st, h, fun _ _ => rfl⟩

theorem WpD.op {clo : List Nat} {j : Nat} {o : Oper} {l : List Oper} {s : St} (hs : ∀ cl, stepD X cl ops clo j o st = some s) (h : WpD X ops clo l (j + 1) s R) : WpD X ops clo (o :: l) j st R := by
  obtain ⟨K, s', h1, h2⟩ := h
  exact ⟨K, s', h1, fun k hk => by simp only [stepsD, hs]; exact h2 k hk⟩

theorem WpD.call {clo : List Nat} {j : Nat} {o : Oper} {l : List Oper} {g : FuncId} {args : List D} {prows : List Row} {r : Ret} (hg : Runs X g args prows r) {s : St} (hs : ∀ cl : FuncId → List D → List Row → Option Ret, cl g args prows = some r → stepD X cl ops clo j o st = some s) (h : WpD X ops clo l (j + 1) s R) : WpD X ops clo (o :: l) j st R := by
  obtain ⟨K, s', h1, h2⟩ := h
  obtain ⟨K', h3⟩ := hg
  exact ⟨max K K', s', h1, fun k hk => by simp only [stepsD, hs _ (h3 k (by omega))]; exact h2 k (by omega)⟩

/-- A function, by its body. -/
theorem Runs.of_body {fn : Func} {c : Code} {args : List D} {prows : List Row} {r : Ret} (hp : X.prim f args prows = none) (hf : X.ft f = some fn) (hb : fn.body = some c) {st : St} (hst : { env := args ++ List.replicate (fn.ntmps - args.length) .und, rows := rowsIn prows } = st)
    (h : WpC X f 0 c st (fun o => ∃ s ds, (o = .ret s ∨ o = .normal s) ∧ mapO (resD X s) fn.results.toList = some ds ∧ export_ prows.length s (oneOr ds) = some r)) : Runs X f args prows r := by
  obtain ⟨K, out, ⟨s, ds, h1, h3, h4⟩, h2⟩ := h
  subst hst
  refine ⟨K + 1, fun k hk => ?_⟩
  obtain ⟨k, rfl⟩ : ∃ k', k = k' + 1 := ⟨k - 1, by omega⟩
  simp only [evalFn, hp, hf, hb]
  rw [h2 k k (by omega) (by omega)]
  rcases h1 with rfl | rfl <;> simp only [h3, h4]

/-! ### rows as lists -/
theorem rowsIn_nil : rowsIn [] = rowsOf [] := by funext i; simp [rowsIn, rowsOf]
theorem rowsIn_one (a : Row) : rowsIn [a] = rowsOf [(500000, a)] := by
  funext i
  unfold rowsIn rowsOf PB
  by_cases h : i = 500000
  · subst h; simp
  · by_cases h2 : 500000 ≤ i
    · have : ¬ i - 500000 = 0 := by omega
      simp [h, h2, rowsOf]
      omega
    · simp [h, h2, rowsOf]

def lget (i : Nat) : List (Nat × Row) → Option Row
  | [] => none
  | (j, r) :: l => if i = j then some r else lget i l

theorem rowsOf_get (L : List (Nat × Row)) (i : Nat) : rowsOf L i = lget i L := by
  induction L with
  | nil => rfl
  | cons a L ih => obtain ⟨j, r⟩ := a; simp only [rowsOf, lget, ih]

/-- Rows renumbered: what has no new number goes. -/
def lren (f : Nat → Option Nat) : List (Nat × Row) → List (Nat × Row)
  | [] => []
  | (j, r) :: l => (j, r.ren f) :: lren f l

def ldel (p : Nat → Bool) : List (Nat × Row) → List (Nat × Row)
  | [] => []
  | (j, r) :: l => if p j then ldel p l else (j, r) :: ldel p l

theorem lget_ren (f : Nat → Option Nat) (L : List (Nat × Row)) (i : Nat) : lget i (lren f L) = (lget i L).map (·.ren f) := by
  induction L with
  | nil => rfl
  | cons a L ih => obtain ⟨j, r⟩ := a; simp only [lren, lget, ih]; split <;> rfl

theorem lget_del (p : Nat → Bool) (L : List (Nat × Row)) (i : Nat) : lget i (ldel p L) = if p i then none else lget i L := by
  induction L with
  | nil => simp [ldel, lget]
  | cons a L ih =>
    obtain ⟨j, r⟩ := a
    simp only [ldel]
    split
    · rename_i hj
      rw [ih]
      simp only [lget]
      split
      · rfl
      · rename_i hi
        have : i ≠ j := fun e => hi (e ▸ hj)
        simp [this]
    · rename_i hj
      simp only [lget, ih]
      split
      · rename_i e; subst e; simp [hj]
      · rfl

def lset (id : Nat) (r : Row) (L : List (Nat × Row)) : List (Nat × Row) := (id, r) :: ldel (· == id) L

theorem setRow_list (id : Nat) (r : Row) (e : List D) (L : List (Nat × Row)) : St.setRow id r ⟨e, rowsOf L⟩ = ⟨e, rowsOf (lset id r L)⟩ := by
  unfold St.setRow
  congr 1
  funext i
  simp only [rowsOf_get, lset, lget, lget_del]
  split
  · rfl
  · rename_i h; simp [h]

theorem forget_list (id : Nat) (e : List D) (L : List (Nat × Row)) : St.forget id ⟨e, rowsOf L⟩ = ⟨e, rowsOf (ldel (· == id) L)⟩ := by
  unfold St.forget
  congr 1
  funext i
  simp only [rowsOf_get, lget_del]
  by_cases h : i = id <;> simp [h]

theorem drop_list (id : Nat) (e : List D) (L : List (Nat × Row)) : St.drop id ⟨e, rowsOf L⟩ = ⟨D.renL (killF id) e, rowsOf (lren (killF id) (ldel (· == id) L))⟩ := by
  unfold St.drop
  congr 1
  funext i
  simp only [rowsOf_get, lget_ren, lget_del]
  by_cases h : i = id <;> simp [h]

theorem newRow_list (id : Nat) (r : Row) (e : List D) (L : List (Nat × Row)) : St.newRow id r ⟨e, rowsOf L⟩ = ⟨D.renL (killF id) e, rowsOf ((id, r) :: lren (killF id) (ldel (· == id) L))⟩ := by
  unfold St.newRow
  rw [drop_list]
  congr 1

theorem dropP_list (p : Nat → Bool) (e : List D) (L : List (Nat × Row)) : St.dropP p ⟨e, rowsOf L⟩ = ⟨D.renL (killP p) e, rowsOf (lren (killP p) (ldel p L))⟩ := by
  unfold St.dropP
  congr 1
  funext i
  simp only [rowsOf_get, lget_ren, lget_del]
  split <;> simp

def lmove (a b : Nat) (L : List (Nat × Row)) : List (Nat × Row) :=
  match lget a L with
  | some r => (b, r.ren (mvF a b)) :: lren (mvF a b) (ldel (fun i => i == a || i == b) L)
  | none => lren (mvF a b) (ldel (fun i => i == a || i == b) L)

theorem move_list (a b : Nat) (e : List D) (L : List (Nat × Row)) : St.move a b ⟨e, rowsOf L⟩ = ⟨D.renL (mvF a b) e, rowsOf (lmove a b L)⟩ := by
  unfold St.move lmove
  congr 1
  funext i
  simp only [rowsOf_get]
  cases h : lget a L with
  | none =>
    simp only [lget_ren, lget_del]
    by_cases hb : i = b
    · simp [hb]
    · by_cases ha : i = a <;> simp [hb, ha]
  | some r =>
    simp only [lget, lget_ren, lget_del]
    by_cases hb : i = b
    · simp [hb]
    · by_cases ha : i = a <;> simp [hb, ha]

theorem mask_list (p : Nat → Bool) (L : List (Nat × Row)) : mask p (rowsOf L) = rowsOf (ldel p L) := by
  funext i
  simp only [mask, rowsOf_get, lget_del]

theorem addRows_list (d : Option Tmp) (A L : List (Nat × Row)) : addRows d (rowsOf A) (rowsOf L) = rowsOf (ldel (fun i => !nset d i) A ++ ldel (nset d) L) := by
  have app : ∀ (A B : List (Nat × Row)) i, lget i (A ++ B) = (lget i A).or (lget i B) := by
    intro A B i
    induction A with
    | nil => simp [lget]
    | cons a A ih => obtain ⟨j, r⟩ := a; simp only [List.cons_append, lget, ih]; split <;> simp
  funext i
  simp only [addRows, rowsOf_get, app, lget_del]
  cases e : nset d i <;> simp

def outL (ids : List Nat) (dst n : Nat) : Nat → List Row → List (Nat × Row)
  | _, [] => []
  | j, r :: rs => (xid dst j, r.ren (outF ids dst n)) :: outL ids dst n (j + 1) rs

def passL (ids : List Nat) (dst n : Nat) : List Nat → List (Option Row) → List (Nat × Row)
  | i :: is, some r :: rs => (i, r.ren (outF ids dst n)) :: passL ids dst n is rs
  | _ :: is, none :: rs => passL ids dst n is rs
  | _, _ => []

theorem outL_get {ids : List Nat} {dst n : Nat} : ∀ (outs : List Row) (j q : Nat), j + outs.length ≤ 40 → q < outs.length → lget (xid dst (j + q)) (outL ids dst n j outs) = (outs[q]?).map (·.ren (outF ids dst n))
  | [], j, q, _, h => by simp at h
  | r :: rs, j, 0, _, _ => by simp [outL, lget]
  | r :: rs, j, q + 1, hj, hq => by
    simp only [List.length_cons] at hj hq
    have : xid dst (j + (q + 1)) ≠ xid dst j := fun e => by have := xid_inj (by omega) (by omega) e; omega
    simp only [outL, lget, if_neg this]
    rw [show j + (q + 1) = j + 1 + q by omega, outL_get rs (j + 1) q (by omega) (by omega)]
    simp

theorem outL_none {ids : List Nat} {dst n i : Nat} : ∀ (outs : List Row) (j : Nat), (∀ q, q < outs.length → xid dst (j + q) ≠ i) → lget i (outL ids dst n j outs) = none
  | [], j, _ => rfl
  | r :: rs, j, h => by
    have h0 := h 0 (by simp)
    simp only [outL, lget]
    rw [if_neg (fun e => h0 (by simpa using e.symm))]
    exact outL_none rs (j + 1) fun q hq => by have := h (q + 1) (by simpa using hq); rwa [show j + 1 + q = j + (q + 1) by omega]

theorem idx_cons (a : Nat) (is : List Nat) (i : Nat) : idx (a :: is) i = if a = i then some 0 else (idx is i).map (· + 1) := by
  unfold idx
  rw [List.findIdx?_cons]
  by_cases h : a = i <;> simp [h]

theorem passL_get {ids : List Nat} {dst n i : Nat} : ∀ (is : List Nat) (ps : List (Option Row)), is.Nodup → ps.length = is.length → lget i (passL ids dst n is ps) = match idx is i with | some j => ((ps[j]?).bind fun x => x).map (·.ren (outF ids dst n)) | none => none
  | [], [], _, _ => rfl
  | [], _ :: _, _, h => by simp at h
  | _ :: _, [], _, h => by simp at h
  | a :: is, p :: ps, hn, hl => by
    simp only [List.nodup_cons] at hn
    have ih := passL_get (ids := ids) (dst := dst) (n := n) (i := i) is ps hn.2 (by simpa using hl)
    rw [idx_cons]
    cases p with
    | some r =>
      simp only [passL, lget]
      by_cases h : a = i
      · simp [h]
      · rw [if_neg (fun e => h e.symm), if_neg h, ih]
        cases idx is i <;> simp
    | none =>
      simp only [passL]
      rw [ih]
      by_cases h : a = i
      · subst h
        have : idx is a = none := by
          cases e : idx is a with
          | none => rfl
          | some j => exact (hn.1 (List.mem_of_getElem? (idx_spec e))).elim
        simp [this]
      · rw [if_neg h]
        cases idx is i <;> simp

theorem lget_app : ∀ (A B : List (Nat × Row)) (i : Nat), lget i (A ++ B) = (lget i A).or (lget i B)
  | [], B, i => by simp [lget]
  | (j, r) :: A, B, i => by simp only [List.cons_append, lget, lget_app A B i]; split <;> simp

theorem behind_nil (dst : Nat) (res : D) (outs : List Row) (L : List (Nat × Row)) (ho : outs.length ≤ 40) :
    rowsBehind [] dst ⟨res, [], outs⟩ (rowsOf L) = rowsOf (outL [] dst outs.length 0 outs ++ ldel (fun i => (outIds dst outs.length).contains i) L) := by
  funext i
  unfold rowsBehind
  simp only [rowsOf_get, lget_app, lget_del]
  cases e : (List.range outs.length).find? (fun j => xid dst j == i) with
  | some q =>
    obtain ⟨h1, h2⟩ := find_xid ho e
    have := outL_get (ids := []) (dst := dst) (n := outs.length) outs 0 q (by omega) h1
    rw [Nat.zero_add, h2] at this
    rw [this]
    simp only
    cases e2 : outs[q]? with
    | none => rw [List.getElem?_eq_none_iff] at e2; omega
    | some r => simp
  | none =>
    have hno := find_xid_none e
    have := outL_none (ids := []) (dst := dst) (n := outs.length) (i := i) outs 0 (fun q hq h => hno (by rw [Nat.zero_add] at h; exact List.mem_map.2 ⟨q, List.mem_range.2 hq, h⟩))
    rw [this]
    have hc : (outIds dst outs.length).contains i = false := by simpa using hno
    simp only [idx, List.findIdx?_nil, hc, Option.none_or, Bool.false_eq_true, if_false]

theorem behind_ids (ids : List Nat) (dst : Nat) (res : D) (ps : List (Option Row)) (outs : List Row) (L : List (Nat × Row)) (hn : ids.Nodup) (hp : ps.length = ids.length) (ho : outs.length ≤ 40) (hd : ∀ i ∈ outIds dst outs.length, i ∉ ids) :
    rowsBehind ids dst ⟨res, ps, outs⟩ (rowsOf L) = rowsOf (outL ids dst outs.length 0 outs ++ (passL ids dst outs.length ids ps ++ ldel (fun i => (outIds dst outs.length).contains i || ids.contains i) L)) := by
  funext i
  unfold rowsBehind
  simp only [rowsOf_get, lget_app, lget_del]
  cases e : (List.range outs.length).find? (fun j => xid dst j == i) with
  | some q =>
    obtain ⟨h1, h2⟩ := find_xid ho e
    have := outL_get (ids := ids) (dst := dst) (n := outs.length) outs 0 q (by omega) h1
    rw [Nat.zero_add, h2] at this
    rw [this]
    simp only
    cases e2 : outs[q]? with
    | none => rw [List.getElem?_eq_none_iff] at e2; omega
    | some r => simp
  | none =>
    have hno := find_xid_none e
    have := outL_none (ids := ids) (dst := dst) (n := outs.length) (i := i) outs 0 (fun q hq h => hno (by rw [Nat.zero_add] at h; exact List.mem_map.2 ⟨q, List.mem_range.2 hq, h⟩))
    rw [this]
    have hc : (outIds dst outs.length).contains i = false := by simpa using hno
    simp only [hc, Bool.false_or, Option.none_or]
    rw [passL_get ids ps hn hp]
    cases e3 : idx ids i with
    | some j =>
      have hi : ids.contains i = true := by simpa using List.mem_of_getElem? (idx_spec e3)
      simp only [hi, if_true]
      have h5 : (ps[j]?).bind id = (ps[j]?).bind fun x => x := rfl
      rw [h5]
      cases h4 : ((ps[j]?).bind fun x => x) <;> rfl
    | none =>
      have hi : ids.contains i = false := by
        cases h5 : ids.contains i with
        | false => rfl
        | true =>
          obtain ⟨j, hj⟩ := List.mem_iff_getElem?.1 (by simpa using h5 : i ∈ ids)
          have : idx ids i ≠ none := by
            unfold idx
            rw [Ne, List.findIdx?_eq_none_iff]
            intro h
            have := h i (List.mem_of_getElem? hj)
            simp at this
          exact (this e3).elim
      rw [hi]
      simp

theorem none_list : (fun _ => none : Nat → Option Row) = rowsOf [] := by funext i; rfl

theorem one_list (j : Nat) (r : Row) : (fun i => if i = j then some r else none : Nat → Option Row) = rowsOf [(j, r)] := by funext i; simp [rowsOf]

end
end Go.PR
