/- The evaluator once more, for values that are not known: what it would have to test is noted down (obs), calls and loops answer from a list, branches are told (ds). Rows are a list. -/
import Derived.Test.YtmjbhacjgjihpaaDoorFwQ
set_option linter.unusedVariables false
set_option linter.unusedSimpArgs false
set_option linter.unusedSectionVars false
section
namespace Go.PR
open Go
structure LSt where
  env : List D
  rl : List (Nat × Row)
def LSt.st (s : LSt) : St := ⟨s.env, rowsOf s.rl⟩
inductive OutL where
  | normal (s : LSt) | exit (id : Nat) (s : LSt) | ret (s : LSt)
def OutL.out : OutL → Out
  | .normal s => .normal s.st
  | .exit i s => .exit i s.st
  | .ret s => .ret s.st
structure Known where
  f : FuncId
  args : List D
  prows : List Row
  ret : Ret
structure LoopAt where
  bid : Nat
  body : Code
  s : LSt
  out : OutL
structure VS where
  ds : List Bool
  rs : List Ret
  lo : List OutL
structure VL where
  obs : List Prop
  calls : List Known
  loops : List LoopAt
def VL.app (a b : VL) : VL := ⟨a.obs ++ b.obs, a.calls ++ b.calls, a.loops ++ b.loops⟩
inductive Why where
  | fail
  | op (o : Oper)
  | tell (k : Nat) (p : Prop)
  | call (f : FuncId) (args : List D) (prows : List Row)
  | loop (bid : Nat) (body : Code) (s : LSt)
inductive VR (α : Type) where
  | ok (x : α) (s : VS) (l : VL)
  | stop (w : Why) (l : VL)
def V (α : Type) := VS → VR α
def vpure {α : Type} (x : α) : V α := fun s => .ok x s ⟨[], [], []⟩
def vbind {α β : Type} (f : V α) (g : α → V β) : V β := fun s => match f s with
  | .ok x s' l => match g x s' with
    | .ok y s'' l' => .ok y s'' (l.app l')
    | .stop w l' => .stop w (l.app l')
  | .stop w l => .stop w l
def vfail {α : Type} : V α := fun _ => .stop .fail ⟨[], [], []⟩
def vat {α : Type} (o : Oper) (f : V α) : V α := fun s => match f s with
  | .ok x s' l => .ok x s' l
  | .stop .fail l => .stop (.op o) l
  | .stop w l => .stop w l
def need (p : Prop) : V Unit := fun s => .ok () s ⟨[p], [], []⟩
def vtell (k : Nat) (p : Prop) : V Bool := fun s => match s.ds with
  | b :: ds => .ok b { s with ds := ds } ⟨[], [], []⟩
  | [] => .stop (.tell k p) ⟨[], [], []⟩
def ofO {α : Type} : Option α → V α
  | some x => vpure x
  | none => vfail
def vcall (f : FuncId) (args : List D) (prows : List Row) : V Ret := fun s => match s.rs with
  | r :: rs => .ok r { s with rs := rs } ⟨[], [⟨f, args, prows, r⟩], []⟩
  | [] => .stop (.call f args prows) ⟨[], [], []⟩
def vloop (bid : Nat) (body : Code) (st : LSt) : V OutL := fun s => match s.lo with
  | o :: lo => .ok o { s with lo := lo } ⟨[], [], [⟨bid, body, st, o⟩]⟩
  | [] => .stop (.loop bid body st) ⟨[], [], []⟩
def AllP : List Prop → Prop
  | [] => True
  | [p] => p
  | p :: ps => p ∧ AllP ps
abbrev CL' := FuncId → List D → List Row → Option Ret
abbrev LP' := Nat → Code → St → Option Out
structure Good (cl : CL') (lp : LP') (s : VL) : Prop where
  obs : ∀ p ∈ s.obs, p
  calls : ∀ c ∈ s.calls, cl c.f c.args c.prows = some c.ret
  loops : ∀ l ∈ s.loops, lp l.bid l.body l.s.st = some l.out.out
def Sim {α β : Type} (cl : CL') (lp : LP') (f : V α) (f0 : Option β) (R : α → β) : Prop := ∀ s x s' l, f s = .ok x s' l → Good cl lp l → f0 = some (R x)
section
variable {cl : CL'} {lp : LP'} {α β γ δ : Type}
theorem z9j : ∀ {l : List Prop}, AllP l ↔ ∀ p ∈ l, p
  | [] => by simp [AllP]
  | [p] => by simp only [AllP, List.mem_singleton]; exact ⟨fun h q e => e ▸ h, fun h => h p rfl⟩
  | p :: q :: l => by
    simp only [AllP]
    rw [z9j (l := q :: l), List.forall_mem_cons (a := p)]
theorem Good.left {a b : VL} (h : Good cl lp (a.app b)) : Good cl lp a := ⟨fun p hp => h.obs p (List.mem_append_left _ hp), fun c hc => h.calls c (List.mem_append_left _ hc), fun c hc => h.loops c (List.mem_append_left _ hc)⟩
theorem Good.right {a b : VL} (h : Good cl lp (a.app b)) : Good cl lp b := ⟨fun p hp => h.obs p (List.mem_append_right _ hp), fun c hc => h.calls c (List.mem_append_right _ hc), fun c hc => h.loops c (List.mem_append_right _ hc)⟩
theorem Sim.pure {x : α} {R : α → β} {f0 : Option β} (h : f0 = some (R x)) : Sim cl lp (vpure x) f0 R := by
  intro s y s' l h1 hg
  simp only [vpure] at h1
  cases h1
  exact h
theorem Sim.fail {R : α → β} {f0 : Option β} : Sim cl lp vfail f0 R := by
  intro s y s' l h1 hg
  cases h1
theorem Sim.bind {f : V α} {g : α → V γ} {f0 : Option β} {h0 : Option δ} {R : α → β} {R' : γ → δ} (h1 : Sim cl lp f f0 R) (h2 : ∀ x, f0 = some (R x) → Sim cl lp (g x) h0 R') : Sim cl lp (vbind f g) h0 R' := by
  intro s y s' l hs hg
  unfold vbind at hs
  cases e : f s with
  | stop w l1 => rw [e] at hs; cases hs
  | ok x s1 l1 =>
    rw [e] at hs
    simp only at hs
    cases e2 : g x s1 with
    | stop w l2 => rw [e2] at hs; cases hs
    | ok y' s2 l2 =>
      rw [e2] at hs
      cases hs
      exact h2 x (h1 s x s1 l1 e hg.left) s1 _ _ _ e2 hg.right
theorem Sim.needs {p : Prop} {g : Unit → V γ} {h0 : Option δ} {R' : γ → δ} (h : p → Sim cl lp (g ()) h0 R') : Sim cl lp (vbind (need p) g) h0 R' := by
  intro s y s' l hs hg
  unfold vbind need at hs
  simp only at hs
  cases e2 : g () s with
  | stop w l2 => rw [e2] at hs; cases hs
  | ok y' s2 l2 =>
    rw [e2] at hs
    cases hs
    exact h (hg.left.obs p (by simp)) s _ _ _ e2 hg.right
theorem Sim.tell {k : Nat} {p : Prop} {g : Bool → V γ} {h0 : Option δ} {R' : γ → δ} (h : ∀ b, Sim cl lp (g b) h0 R') : Sim cl lp (vbind (vtell k p) g) h0 R' := by
  intro s y s' l hs hg
  have key : ∀ (b : Bool) (s1 : VS), vtell k p s = .ok b s1 ⟨[], [], []⟩ → h0 = some (R' y) := by
    intro b s1 e
    unfold vbind at hs
    rw [e] at hs
    simp only at hs
    cases e2 : g b s1 with
    | stop w l2 => rw [e2] at hs; cases hs
    | ok y' s2 l2 =>
      rw [e2] at hs
      cases hs
      exact h b _ _ _ _ e2 hg.right
  cases hd : s.ds with
  | nil => unfold vbind vtell at hs; rw [hd] at hs; cases hs
  | cons b ds => exact key b { s with ds := ds } (by simp only [vtell, hd])
theorem Sim.at {o : Oper} {f : V α} {f0 : Option β} {R : α → β} (h : Sim cl lp f f0 R) : Sim cl lp (vat o f) f0 R := by
  intro s y s' l hs hg
  unfold vat at hs
  cases e : f s with
  | ok x s1 l1 => rw [e] at hs; cases hs; exact h s _ _ _ e hg
  | stop w l1 => rw [e] at hs; cases w <;> cases hs
theorem Sim.opt {f0 : Option α} {g : α → V γ} {h0 : Option δ} {R' : γ → δ} (h : ∀ x, f0 = some x → Sim cl lp (g x) h0 R') : Sim cl lp (vbind (ofO f0) g) h0 R' := by
  cases f0 with
  | none => intro s y s' l hs hg; unfold vbind ofO vfail at hs; cases hs
  | some x => exact Sim.bind (R := id) (f0 := some x) (Sim.pure rfl) fun y hy => h y (by simpa using hy)
theorem Sim.opt' {f0 : Option α} {h0 : Option δ} {R' : α → δ} (h : ∀ x, f0 = some x → h0 = some (R' x)) : Sim cl lp (ofO f0) h0 R' := by
  cases f0 with
  | none => intro s y s' l hs hg; unfold ofO vfail at hs; cases hs
  | some x => exact Sim.pure (h x rfl)
theorem Sim.call {f : FuncId} {args : List D} {prows : List Row} {g : Ret → V γ} {h0 : Option δ} {R' : γ → δ} (h : ∀ r, cl f args prows = some r → Sim cl lp (g r) h0 R') : Sim cl lp (vbind (vcall f args prows) g) h0 R' := by
  intro s y s' l hs hg
  unfold vbind vcall at hs
  cases hd : s.rs with
  | nil => rw [hd] at hs; cases hs
  | cons b ds =>
    rw [hd] at hs
    simp only at hs
    cases e2 : g b { s with rs := ds } with
    | stop w l2 => rw [e2] at hs; cases hs
    | ok y' s2 l2 =>
      rw [e2] at hs
      cases hs
      exact h b (hg.left.calls ⟨f, args, prows, b⟩ (by simp)) _ _ _ _ e2 hg.right
theorem Sim.loop {bid : Nat} {body : Code} {st : LSt} {g : OutL → V γ} {h0 : Option δ} {R' : γ → δ} (h : ∀ o : OutL, lp bid body st.st = some o.out → Sim cl lp (g o) h0 R') : Sim cl lp (vbind (vloop bid body st) g) h0 R' := by
  intro s y s' l hs hg
  unfold vbind vloop at hs
  cases hd : s.lo with
  | nil => rw [hd] at hs; cases hs
  | cons b ds =>
    rw [hd] at hs
    simp only at hs
    cases e2 : g b { s with lo := ds } with
    | stop w l2 => rw [e2] at hs; cases hs
    | ok y' s2 l2 =>
      rw [e2] at hs
      cases hs
      exact h b (hg.left.loops ⟨bid, body, st, b⟩ (by simp)) _ _ _ _ e2 hg.right
end
end Go.PR

end

section
namespace Go.PR
open Go
def inR (x : Int) : Prop := -9223372036854775808 ≤ x ∧ x ≤ 9223372036854775807
def inV (x : Int) : V D := vbind (need (inR x)) fun _ => vpure (.int .i64 x)
def iand (a b : Int) : Int := IntKind.i64.wrap (BitVec.ofInt IntKind.i64.bits a &&& BitVec.ofInt IntKind.i64.bits b).toNat
def ior (a b : Int) : Int := IntKind.i64.wrap (BitVec.ofInt IntKind.i64.bits a ||| BitVec.ofInt IntKind.i64.bits b).toNat
def ixor (a b : Int) : Int := IntKind.i64.wrap (BitVec.ofInt IntKind.i64.bits a ^^^ BitVec.ofInt IntKind.i64.bits b).toNat
def iandnot (a b : Int) : Int := IntKind.i64.wrap (BitVec.ofInt IntKind.i64.bits a &&& ~~~ BitVec.ofInt IntKind.i64.bits b).toNat
def ishl (a b : Int) : Int := a * 2 ^ min b.toNat 64
def ishr (a b : Int) : Int := a.fdiv (2 ^ min b.toNat 64)
def uadd (a b : Int) : Int := IntKind.u64.wrap (a + b)
def umul (a b : Int) : Int := IntKind.u64.wrap (a * b)
def uand (a b : Int) : Int := IntKind.u64.wrap (BitVec.ofInt IntKind.u64.bits a &&& BitVec.ofInt IntKind.u64.bits b).toNat
def ushr (a b : Int) : Int := a.fdiv (2 ^ min b.toNat 64)
def binIV (op : BinOp) (k : IntKind) (a b : Int) : V D :=
  match k, op with
  | .i64, .add => inV (a + b)
  | .i64, .sub => inV (a - b)
  | .i64, .mul => inV (a * b)
  | .i64, .and => vpure (.int .i64 (iand a b))
  | .i64, .or => vpure (.int .i64 (ior a b))
  | .i64, .xor => vpure (.int .i64 (ixor a b))
  | .i64, .andNot => vpure (.int .i64 (iandnot a b))
  | .u64, .add => vpure (.int .u64 (uadd a b))
  | .u64, .mul => vpure (.int .u64 (umul a b))
  | .u64, .and => vpure (.int .u64 (uand a b))
  | .i64, .quo => vbind (need (b ≠ 0)) fun _ => inV (a.tdiv b)
  | k, .rem => vbind (need (b ≠ 0)) fun _ => vpure (.int k (a.tmod b))
  | k, op => ofO (binI op k a b)
def shiftV (op : BinOp) (k : IntKind) (a b : Int) : V D :=
  vbind (need (0 ≤ b)) fun _ => match k, op with
  | .i64, .shl => inV (ishl a b)
  | .i64, .shr => vpure (.int .i64 (ishr a b))
  | .u64, .shr => vpure (.int .u64 (ushr a b))
  | k, .shl => vpure (.int k (k.wrap (a * 2 ^ min b.toNat k.bits)))
  | k, .shr => vpure (.int k (a.fdiv (2 ^ min b.toNat k.bits)))
  | _, _ => vfail
def nilV (op : BinOp) (d : D) : V D :=
  match d with
  | .nil .unk => match op with
    | .eql => vpure (.bool true)
    | .neq => vpure (.bool false)
    | _ => vfail
  | d => vbind (match d with
    | .rsl _ _ n => need (0 < n)
    | d => match d.cont with
      | some c => need (0 < c.len)
      | none => vfail) fun _ => match op with
  | .eql => vpure (.bool false)
  | .neq => vpure (.bool true)
  | _ => vfail
def binV2 (op : BinOp) (t : Option TI) (x y : D) : V D :=
  match x, y with
  | .int k a, .int k' b => match op with
    | .shl => shiftV .shl k a b
    | .shr => shiftV .shr k a b
    | op => if k = k' then binIV op k a b else vfail
  | dx, dy => ofO (binD op t dx dy)
def binV (X : Ctx) (s : LSt) (op : BinOp) (t : TypeId) (x y : Operand) : V D :=
  match y with
  | .const (.slice none 0 0) => match X.tt t with
    | some ⟨.slice _, _, _, _⟩ => nilV op (ev X s.st x)
    | _ => vfail
  | y => binV2 op (X.tt t) (ev X s.st x) (ev X s.st y)
def unV (op : UnOp) (d : D) : V D :=
  match op, d with
  | .neg, .int .i64 n => inV (-n)
  | op, d => ofO (unD op d)
def convV (X : Ctx) (rl : List (Nat × Row)) (s d : TypeId) (x : D) : V D :=
  match X.tt s, X.tt d, x with
  | some si, some di, .int k n => match si.kind, di.kind with
    | .int _, .int .i64 => inV n
    | .int _, .int k' => vpure (.int k' (k'.wrap n))
    | _, _ => vfail
  | some si, some di, x => match si.kind, di.kind with
    | .slice e, .str => match X.tt e with
      | some ⟨.int .u8, _, _, _⟩ => match x with
        | .rsl r off n => match lget r rl with
          | some ⟨_, .ints .u8 xs⟩ => vbind (vtell 1 (off = 0 ∧ n = xs.length)) fun b => if b then vbind (need (off = 0 ∧ n = xs.length)) fun _ => vpure (.str (bytesOf xs)) else vbind (need (off + n ≤ xs.length)) fun _ => vpure (.str (bytesOf ((xs.drop off).take n)))
          | _ => vfail
        | x => ofO (strOf (rowsOf rl) x)
      | _ => vfail
    | _, _ => vfail
  | _, _, _ => vfail
def Cont.getT : Cont → Nat → D
  | .ints k xs, i => .int k (xs.getD i 0)
  | .bools xs, i => .bool (xs.getD i false)
  | .ints2 k xss, i => .immI k (xss.getD i [])
  | .gen els, i => els.getD i .any
  | .var cells, i => cells.getD i .any
  | .mp _ _ _, _ => .any
  | .nest _ _, _ => .any
  | .recs _ _, _ => .any
def loadV (i : TI) (s : LSt) (ad : D) : V D :=
  match ad with
  | .pel r j => match lget r s.rl with
    | some row => if i.agg || row.c.isVar then vfail else if i.size = 1 then vbind (need (j < row.c.len)) fun _ => vpure (row.c.getT j) else vfail
    | none => vfail
  | .npe r j => match lget r s.rl with
    | some ⟨_, .nest _ xss⟩ => if i.agg = false ∧ i.size = 1 then vbind (need (j < xss.length)) fun _ => vpure (.nel r j (xss.getD j []).length) else vfail
    | _ => vfail
  | .nep r j q => match lget r s.rl with
    | some ⟨_, .nest k xss⟩ => if i.agg = false ∧ i.size = 1 then vbind (need (j < xss.length)) fun _ => vbind (need (q < (xss.getD j []).length)) fun _ => vpure (.int k ((xss.getD j []).getD q 0)) else vfail
    | _ => vfail
  | .rpe r sz j f => match lget r s.rl with
    | some ⟨_, .recs sh ps⟩ => if sz = sh.length then vbind (need (j < ps.length)) fun _ => ofO (loadL i ((cellsOf sh (rcdAt ps j)).drop f)) else vfail
    | _ => vfail
  | d => ofO (loadD i s.st.rows d)
def z7t (X : Ctx) (i : TI) (x ix : D) : V D :=
  match ix with
  | .int k j => match i.kind, x with
    | .slice e, .rsl r off n => match X.tt e with
      | some ei => if ei.size = 1 then vbind (need (0 ≤ j ∧ j < n)) fun _ => vpure (.pel r (off + j.toNat)) else vfail
      | none => vfail
    | .slice e, .immR sh ps => match X.tt e with
      | some ei => if ei.size = sh.length ∧ 0 < ei.size then vbind (need (0 ≤ j ∧ j < ps.length)) fun _ => vpure (.pim (cellsOf sh (rcdAt ps j.toNat))) else vfail
      | none => vfail
    | .slice e, .rcs r sz n => match X.tt e with
      | some ei => if ei.size = sz ∧ 0 < sz then vbind (need (0 ≤ j ∧ j < n)) fun _ => vpure (.rpe r sz j.toNat 0) else vfail
      | none => vfail
    | .slice e, .nsl r n => match X.tt e with
      | some ei => if ei.size = 1 then vbind (need (0 ≤ j ∧ j < n)) fun _ => vpure (.npe r j.toNat) else vfail
      | none => vfail
    | .slice e, .nel r q n => match X.tt e with
      | some ei => if ei.size = 1 then vbind (need (0 ≤ j ∧ j < n)) fun _ => vpure (.nep r q j.toNat) else vfail
      | none => vfail
    | .slice e, x => match X.tt e, x.cont with
      | some ei, some c => if ei.size = 1 then vbind (need (0 ≤ j ∧ j < c.len)) fun _ => vpure (.pim [c.getT j.toNat]) else vfail
      | _, _ => vfail
    | _, x => ofO (z1k X i x (.int k j))
  | _ => vfail
def bndV : Option D → Nat → V Nat
  | none, d => vpure d
  | some (.int _ j), _ => vbind (need (0 ≤ j)) fun _ => vpure j.toNat
  | _, _ => vfail
def Cont.whole : Cont → V D
  | .ints k xs => vpure (.immI k xs)
  | .bools xs => vpure (.immB xs)
  | .ints2 k xss => vpure (.imm2 k xss)
  | .gen els => vpure (.immG els)
  | .var _ => vfail
  | .mp _ _ _ => vfail
  | .nest _ _ => vfail
  | .recs _ _ => vfail
def Cont.part (off n : Nat) : Cont → V D
  | .ints k xs => vpure (.immI k ((xs.drop off).take n))
  | .bools xs => vpure (.immB ((xs.drop off).take n))
  | .ints2 k xss => vpure (.imm2 k ((xss.drop off).take n))
  | .gen els => vpure (.immG ((els.drop off).take n))
  | .var _ => vfail
  | .mp _ _ _ => vfail
  | .nest _ _ => vfail
  | .recs _ _ => vfail
def immV (c : Cont) (off n : Nat) : V D :=
  vbind (vtell 1 (off = 0 ∧ n = c.len)) fun b => if b then vbind (need (off = 0 ∧ n = c.len)) fun _ => c.whole else vbind (need (off + n ≤ c.len)) fun _ => c.part off n
def sliceV (X : Ctx) (i : TI) (s : LSt) (x : D) (lo hi mx : Option D) : V D :=
  match i.kind with
  | .slice e => match X.tt e with
    | some ei => if ei.size = 1 then match mx with
      | some m => match x, hi, m with
        | .rsl _ _ n, some (.int _ h), .int _ m => vbind (bndV lo 0) fun l => vbind (need ((l : Int) ≤ h ∧ h ≤ m ∧ m ≤ n)) fun _ => vpure .any
        | x, hi, m => ofO (sliceD X i s.st.rows x lo hi (some m))
      | none => match x with
        | .rsl r off n => vbind (bndV lo 0) fun l => vbind (bndV hi n) fun h => vbind (vtell 2 (h ≤ n)) fun b =>
            vbind (if b then need (l ≤ h ∧ h ≤ n) else match lget r s.rl with
              | some row => if row.c.isVar then vfail else need (l ≤ h ∧ off + h ≤ row.c.len)
              | none => vfail) fun _ => vpure (.rsl r (off + l) (h - l))
        | .nil k => vbind (bndV lo 0) fun l => vbind (bndV hi 0) fun h => vbind (need (l = 0 ∧ h = 0)) fun _ => vpure (.nil k)
        | x => match x.cont with
          | some c => vbind (bndV lo 0) fun l => vbind (bndV hi c.len) fun h => vbind (need (l ≤ h ∧ h ≤ c.len)) fun _ => immV c l (h - l)
          | none => vfail
      else vfail
    | none => vfail
  | _ => vfail
def quietV (X : Ctx) (s : LSt) (o : Oper) : V D :=
  match o.op with
  | .load t a => match X.tt t with
    | some i => loadV i s (ev X s.st a)
    | none => vfail
  | .binOp op t x y _ => binV X s op t x y
  | .unOp op _ x => unV op (ev X s.st x)
  | .convert a b x => convV X s.rl a b (ev X s.st x)
  | .slice t x lo hi mx => match X.tt t with
    | some i => sliceV X i s (ev X s.st x) (lo.map (ev X s.st)) (hi.map (ev X s.st)) (mx.map (ev X s.st))
    | none => vfail
  | .indexAddr t x ix => match X.tt t with
    | some i => z7t X i (ev X s.st x) (ev X s.st ix)
    | none => vfail
  | .pick c a b => match ev X s.st c with
    | .bool t => vbind (vtell 0 (t = true)) fun g => vbind (need (t = g)) fun _ => vpure (pickD g (ev X s.st a) (ev X s.st b))
    | _ => vfail
  | _ => ofO (quiet X s.st o)
section
variable {X : Ctx} {cl : CL'} {lp : LP'} {s : LSt}
theorem inV_sim {x : Int} {f0 : Option D} (h : inR x → f0 = some (.int .i64 x)) : Sim cl lp (inV x) f0 id := Sim.needs fun hp => Sim.pure (h hp)
theorem z3z {x : Int} (h : inR x) : IntKind.i64.wrap x = x := by
  unfold inR at h
  rw [IntKind.wrap_i64]; omega
theorem zem (op : BinOp) (k : IntKind) (a b : Int) : Sim cl lp (binIV op k a b) (binI op k a b) id := by
  unfold binIV
  split
  · exact inV_sim fun h => by simp only [binI, z3z h]
  · exact inV_sim fun h => by simp only [binI, z3z h]
  · exact inV_sim fun h => by simp only [binI, z3z h]
  · exact Sim.pure rfl
  · exact Sim.pure rfl
  · exact Sim.pure rfl
  · exact Sim.pure rfl
  · exact Sim.pure rfl
  · exact Sim.pure rfl
  · exact Sim.pure rfl
  · exact Sim.needs fun hb => inV_sim fun h => by simp only [binI, if_neg hb, z3z h]
  · exact Sim.needs fun hb => Sim.pure (by simp only [binI, if_neg hb]; rfl)
  · exact Sim.opt' fun x hx => hx
theorem zd6 (op : BinOp) (k : IntKind) (a b : Int) : Sim cl lp (shiftV op k a b) (shiftI op k a b) id := by
  unfold shiftV
  refine Sim.needs fun hb => ?_
  have hb' : ¬ b < 0 := by omega
  split
  · exact inV_sim fun h => by
      have e : IntKind.i64.wrap (a * 2 ^ min b.toNat 64) = ishl a b := z3z h
      simp only [shiftI, if_neg hb', IntKind.bits, e]
  · exact Sim.pure (by simp only [shiftI, if_neg hb']; rfl)
  · exact Sim.pure (by simp only [shiftI, if_neg hb']; rfl)
  · exact Sim.pure (by simp only [shiftI, if_neg hb']; rfl)
  · exact Sim.pure (by simp only [shiftI, if_neg hb']; rfl)
  · exact Sim.fail
theorem zkg (op : BinOp) (d : D) : Sim cl lp (nilV op d) (nilD op d) id := by
  unfold nilV
  split
  · split
    · exact Sim.pure rfl
    · exact Sim.pure rfl
    · exact Sim.fail
  rename_i hnu
  have hnils : d.some? = true → d.nils = some false := fun h => by
    unfold D.nils
    split
    · exact (hnu rfl).elim
    · rw [if_pos h]
  have fin : d.some? = true → Sim cl lp (match op with | .eql => vpure (.bool false) | .neq => vpure (.bool true) | _ => vfail) (nilD op d) id := fun h => by
    split
    · exact Sim.pure (by simp only [nilD, hnils h]; rfl)
    · exact Sim.pure (by simp only [nilD, hnils h]; rfl)
    · exact Sim.fail
  split
  · exact Sim.needs fun h => fin (by simpa [D.some?] using h)
  · rename_i d hno
    split
    · rename_i c hc
      refine Sim.needs fun h => fin ?_
      unfold D.some?
      split
      · exact (hno _ _ _ rfl).elim
      · rw [hc]; simpa using h
    · intro s' x s'' l h; unfold vbind vfail at h; cases h
theorem zep (op : BinOp) (t : Option TI) (x y : D) : Sim cl lp (binV2 op t x y) (binD op t x y) id := by
  unfold binV2
  split
  · rename_i k a k' b
    split
    · exact zd6 _ _ _ _
    · exact zd6 _ _ _ _
    · rename_i h1 h2
      split
      · rename_i e
        have : binD op t (.int k a) (.int k' b) = binI op k a b := by
          cases op <;> simp_all [binD]
        rw [this]
        exact zem _ _ _ _
      · exact Sim.fail
  · exact Sim.opt' fun x hx => hx
theorem zeq (op : BinOp) (t : TypeId) (x y : Operand) : Sim cl lp (binV X s op t x y) (binC X s.st op t x y) id := by
  unfold binV binC
  split
  · split
    · rename_i e sz by_ z h; rw [h]; exact zkg _ _
    · exact Sim.fail
  · rename_i h
    split
    · exact (h rfl).elim
    · exact zep _ _ _ _
theorem unV_sim (op : UnOp) (d : D) : Sim cl lp (unV op d) (unD op d) id := by
  unfold unV
  split
  · exact inV_sim fun h => by simp only [unD, Int.zero_sub, z3z h]
  · exact Sim.opt' fun x hx => hx
theorem Cont.get_getT {c : Cont} {j : Nat} (hv : c.isVar = false) (h : j < c.len) : c.get j = some (c.getT j) := by
  cases c <;> first | cases hv; done | skip
  all_goals simp only [Cont.len] at h <;> first | exact absurd h (Nat.not_lt_zero _) | simp [Cont.get, Cont.getT, h]
theorem zjw (i : TI) (ad : D) : Sim cl lp (loadV i s ad) (loadD i s.st.rows ad) id := by
  unfold loadV
  split
  · rename_i r j
    split
    · rename_i row hrow
      split
      · exact Sim.fail
      · rename_i hc
        split
        · rename_i hsz
          refine Sim.needs fun h => Sim.pure ?_
          have hr : s.st.rows r = some row := by show rowsOf s.rl r = _; rw [zd]; exact hrow
          have hc' : ¬ (i.agg = true ∨ row.c.isVar = true) := by simpa using hc
          simp only [loadD, hr, if_neg hc', hsz, if_true, Cont.get_getT (c := row.c) (by cases e : row.c.isVar with | false => rfl | true => exact absurd (.inr e) hc') h]
          rfl
        · exact Sim.fail
    · exact Sim.fail
  · rename_i r j
    split
    · rename_i wr k xss hrow
      split
      · rename_i hc
        refine Sim.needs fun h => Sim.pure ?_
        have hr : s.st.rows r = some ⟨wr, .nest k xss⟩ := by show rowsOf s.rl r = _; rw [zd]; exact hrow
        simp only [loadD, hr]; rw [if_pos ⟨hc.1, hc.2, h⟩]; rfl
      · exact Sim.fail
    · exact Sim.fail
  · rename_i r j q
    split
    · rename_i wr k xss hrow
      split
      · rename_i hc
        refine Sim.needs fun h => Sim.needs fun h2 => Sim.pure ?_
        have hr : s.st.rows r = some ⟨wr, .nest k xss⟩ := by show rowsOf s.rl r = _; rw [zd]; exact hrow
        simp only [loadD, hr]; rw [if_pos ⟨hc.1, hc.2, h, h2⟩]; rfl
      · exact Sim.fail
    · exact Sim.fail
  · rename_i r sz j f
    split
    · rename_i wr sh ps hrow
      split
      · rename_i hc
        refine Sim.needs fun h => ?_
        have hr : s.st.rows r = some ⟨wr, .recs sh ps⟩ := by show rowsOf s.rl r = _; rw [zd]; exact hrow
        refine Sim.opt' fun x hx => ?_
        simp only [loadD, hr]; rw [if_pos ⟨hc, h⟩]; exact hx
      · exact Sim.fail
    · exact Sim.fail
  · exact Sim.opt' fun x hx => hx
theorem zae {x : D} {c : Cont} (h : x.cont = some c) : (∃ k xs, x = .immI k xs ∧ c = .ints k xs) ∨ (∃ xs, x = .immB xs ∧ c = .bools xs) ∨ (∃ k xs, x = .imm2 k xs ∧ c = .ints2 k xs) ∨ ∃ xs, x = .immG xs ∧ c = .gen xs := by
  cases x with
  | immI k xs => cases h; exact .inl ⟨k, xs, rfl, rfl⟩
  | immB xs => cases h; exact .inr (.inl ⟨xs, rfl, rfl⟩)
  | imm2 k xs => cases h; exact .inr (.inr (.inl ⟨k, xs, rfl, rfl⟩))
  | immG xs => cases h; exact .inr (.inr (.inr ⟨xs, rfl, rfl⟩))
  | _ => simp [D.cont] at h
theorem zi0 (i : TI) (x ix : D) : Sim cl lp (z7t X i x ix) (z1k X i x ix) id := by
  unfold z7t
  split
  · rename_i k j
    split
    · rename_i e r off n hk
      split
      · rename_i ei he
        split
        · rename_i hsz
          refine Sim.needs fun h => Sim.pure ?_
          simp only [z1k, hk, he]
          rw [if_pos ⟨hsz, h⟩]; rfl
        · exact Sim.fail
      · exact Sim.fail
    · rename_i e sh ps hk
      split
      · rename_i ei he
        split
        · rename_i hsz
          refine Sim.needs fun h => Sim.pure ?_
          simp only [z1k, hk, he]
          rw [if_pos ⟨hsz.1, hsz.2, h⟩]; rfl
        · exact Sim.fail
      · exact Sim.fail
    · rename_i e r sz n hk
      split
      · rename_i ei he
        split
        · rename_i hsz
          refine Sim.needs fun h => Sim.pure ?_
          simp only [z1k, hk, he]
          rw [if_pos ⟨hsz.1, hsz.2, h⟩]; rfl
        · exact Sim.fail
      · exact Sim.fail
    · rename_i e r n hk
      split
      · rename_i ei he
        split
        · rename_i hsz
          refine Sim.needs fun h => Sim.pure ?_
          simp only [z1k, hk, he]
          rw [if_pos ⟨hsz, h⟩]; rfl
        · exact Sim.fail
      · exact Sim.fail
    · rename_i e r q n hk
      split
      · rename_i ei he
        split
        · rename_i hsz
          refine Sim.needs fun h => Sim.pure ?_
          simp only [z1k, hk, he]
          rw [if_pos ⟨hsz, h⟩]; rfl
        · exact Sim.fail
      · exact Sim.fail
    · rename_i x1 e hk hno hno2 hno3 hno4 hno5
      split
      · rename_i ei c he hc
        split
        · rename_i hsz
          refine Sim.needs fun h => Sim.pure ?_
          have hj : j.toNat < c.len := by omega
          rcases zae hc with ⟨k, xs, rfl, rfl⟩ | ⟨xs, rfl, rfl⟩ | ⟨k, xs, rfl, rfl⟩ | ⟨xs, rfl, rfl⟩ <;> simp only [z1k, hk, he, D.cont] <;> rw [if_pos ⟨hsz, h⟩, Cont.get_getT rfl hj] <;> rfl
        · exact Sim.fail
      · exact Sim.fail
    · exact Sim.opt' fun x hx => hx
  · exact Sim.fail
theorem z3c (o : Option D) (d : Nat) : Sim cl lp (bndV o d) (bnd o d) id := by
  unfold bndV
  split
  · exact Sim.pure rfl
  · exact Sim.needs fun h => Sim.pure (by simp only [bnd, if_pos h]; rfl)
  · exact Sim.fail
theorem zb0 (c : Cont) (off n : Nat) : Sim cl lp (immV c off n) (c.imm off n) id := by
  unfold immV
  refine Sim.tell fun b => ?_
  cases b with
  | true =>
    simp only [if_true]
    refine Sim.needs fun h => ?_
    obtain ⟨rfl, rfl⟩ := h
    cases c <;> unfold Cont.whole <;> first | exact Sim.fail | exact Sim.pure (by simp [Cont.imm, subL, Cont.len])
  | false =>
    simp only [Bool.false_eq_true, if_false]
    refine Sim.needs fun h => ?_
    cases c <;> unfold Cont.part <;> first | exact Sim.fail | exact Sim.pure (by simp only [Cont.imm]; rw [subL_eq _ _ _ (by simpa [Cont.len] using h)]; rfl)
theorem Sim.skip {α β γ δ : Type} {f : V α} {g : α → V γ} {h0 : Option δ} {R' : γ → δ} {f0 : Option β} {R : α → β} (h1 : Sim cl lp f f0 R) (h2 : ∀ x, f0 = some (R x) → Sim cl lp (g x) h0 R') : Sim cl lp (vbind f g) h0 R' := Sim.bind h1 h2
theorem zm8 (i : TI) (x : D) (lo hi mx : Option D) : Sim cl lp (sliceV X i s x lo hi mx) (sliceD X i s.st.rows x lo hi mx) id := by
  unfold sliceV
  split
  case h_2 => exact Sim.fail
  rename_i e hk
  split
  case h_2 => exact Sim.fail
  rename_i ei he
  split
  case isFalse => exact Sim.fail
  rename_i hsz
  split
  · rename_i m
    split
    · rename_i r off n k h k2 m2
      refine Sim.bind (z3c lo 0) fun l hl => Sim.needs fun hh => Sim.pure ?_
      simp only [sliceD, hk, he, hsz, if_true]
      simp only [id] at hl
      simp only [hl, if_pos hh]
      rfl
    · exact Sim.opt' fun x hx => hx
  · split
    · rename_i r off n
      refine Sim.bind (z3c lo 0) fun l hl => Sim.bind (z3c hi n) fun h hh => Sim.tell fun b => ?_
      simp only [id] at hl hh
      cases b with
      | true =>
        simp only [if_true]
        refine Sim.needs fun hc => Sim.pure ?_
        simp only [sliceD, hk, he, hsz, if_true, hl, hh]
        rw [if_pos ⟨hc.1, .inl hc.2⟩]; rfl
      | false =>
        simp only [Bool.false_eq_true, if_false]
        split
        · rename_i row hrow
          split
          · intro s' x s'' l h; unfold vbind vfail at h; cases h
          · rename_i hv
            refine Sim.needs fun hc => Sim.pure ?_
            simp only [sliceD, hk, he, hsz, if_true, hl, hh]
            have hr : s.st.rows r = some row := by show rowsOf s.rl r = _; rw [zd]; exact hrow
            rw [if_pos ⟨hc.1, .inr (by unfold roomy; rw [hr]; simp [hv, hc.2])⟩]; rfl
        · intro s' x s'' l h; unfold vbind vfail at h; cases h
    · rename_i k
      refine Sim.bind (z3c lo 0) fun l hl => Sim.bind (z3c hi 0) fun h hh => Sim.needs fun hc => Sim.pure ?_
      simp only [id] at hl hh
      obtain ⟨rfl, rfl⟩ := hc
      simp only [sliceD, hk, he, hsz, if_true, hl, hh]; rfl
    · rename_i x1 hn1 hn2
      split
      · rename_i c hc
        refine Sim.bind (z3c lo 0) fun l hl => Sim.bind (z3c hi c.len) fun h hh => Sim.needs fun hcc => ?_
        simp only [id] at hl hh
        have : ∀ y : D, y.cont = some c → sliceD X i s.st.rows y lo hi none = c.imm l (h - l) := by
          intro y hy
          rcases zae hy with ⟨k, xs, rfl, rfl⟩ | ⟨xs, rfl, rfl⟩ | ⟨k, xs, rfl, rfl⟩ | ⟨xs, rfl, rfl⟩ <;> simp only [sliceD, hk, he, hsz, if_true, D.cont, hl, hh, if_pos hcc]
        rw [this _ hc]
        exact zb0 _ _ _
      · exact Sim.fail
theorem zcf (o : Oper) : Sim cl lp (quietV X s o) (quiet X s.st o) id := by
  unfold quietV
  split
  · rename_i t a hop
    split
    · rename_i i ht
      have : quiet X s.st o = loadD i s.st.rows (ev X s.st a) := by simp only [quiet, hop, ht]
      rw [this]; exact zjw _ _
    · exact Sim.fail
  · rename_i op t x y yt hop
    have : quiet X s.st o = binC X s.st op t x y := by simp only [quiet, hop]
    rw [this]; exact zeq _ _ _ _
  · rename_i op t x hop
    have : quiet X s.st o = unD op (ev X s.st x) := by simp only [quiet, hop]
    rw [this]; exact unV_sim _ _
  · rename_i a b x hop
    unfold convV
    split
    · rename_i si di k n h1 h2 h3
      split
      · rename_i k1 e1 e2
        exact inV_sim fun h => by simp only [quiet, hop, h1, h2, h3, e1, e2, z3z h]
      · rename_i k1 k2 e1 e2
        exact Sim.pure (by simp only [quiet, hop, h1, h2, h3, e1, e2]; rfl)
      · exact Sim.fail
    · rename_i dx si di h1 h2 hno
      have hq : quiet X s.st o = convS X s.st.rows si di (ev X s.st x) := by
        simp only [quiet, hop, h1, h2]
      rw [hq]
      split
      · rename_i e e1 e2
        split
        · rename_i he
          have hc : ∀ y, convS X s.st.rows si di y = strOf s.st.rows y := fun y => by simp only [convS, e1, e2, he]
          rw [hc]
          split
          · rename_i r off n hx
            split
            · rename_i wr xs hrow
              refine Sim.tell fun b => ?_
              have hr : s.st.rows r = some ⟨wr, .ints .u8 xs⟩ := by show rowsOf s.rl r = _; rw [zd]; exact hrow
              cases b with
              | true =>
                simp only [if_true]
                refine Sim.needs fun h => Sim.pure ?_
                simp only [hx, strOf, hr]
                rw [if_pos (by omega)]
                simp only [subL, if_pos h]; rfl
              | false =>
                simp only [Bool.false_eq_true, if_false]
                refine Sim.needs fun h => Sim.pure ?_
                simp only [hx, strOf, hr]
                rw [if_pos h, subL_eq _ _ _ h]; rfl
            · exact Sim.fail
          · exact Sim.opt' fun y hy => hy
        · exact Sim.fail
      · exact Sim.fail
    · exact Sim.fail
  · rename_i t x lo hi mx hop
    split
    · rename_i i ht
      have : quiet X s.st o = sliceD X i s.st.rows (ev X s.st x) (lo.map (ev X s.st)) (hi.map (ev X s.st)) (mx.map (ev X s.st)) := by simp only [quiet, hop, ht]
      rw [this]; exact zm8 _ _ _ _ _
    · exact Sim.fail
  · rename_i t x ix hop
    split
    · rename_i i ht
      have : quiet X s.st o = z1k X i (ev X s.st x) (ev X s.st ix) := by simp only [quiet, hop, ht]
      rw [this]; exact zi0 _ _ _
    · exact Sim.fail
  · rename_i c a b hop
    split
    · rename_i t ht
      refine Sim.tell fun g => Sim.needs fun h => Sim.pure ?_
      subst h
      simp only [quiet, hop, ht]; rfl
    · exact Sim.fail
  · exact Sim.opt' fun x hx => hx
end
end Go.PR

end

section
namespace Go.PR
open Go
def LSt.put (dst : Option Tmp) (d : D) (s : LSt) : LSt := ⟨envD dst d s.env, s.rl⟩
def LSt.setRow (r : Nat) (row : Row) (s : LSt) : LSt := ⟨s.env, lset r row s.rl⟩
def LSt.newRow (id : Nat) (row : Row) (s : LSt) : LSt := ⟨D.renL (killF id) s.env, (id, row) :: lren (killF id) (ldel (· == id) s.rl)⟩
def LSt.move (a b : Nat) (s : LSt) : LSt := ⟨D.renL (mvF a b) s.env, lmove a b s.rl⟩
def LSt.forget (r : Nat) (s : LSt) : LSt := ⟨s.env, ldel (· == r) s.rl⟩
def LSt.drop (r : Nat) (s : LSt) : LSt := ⟨D.renL (killF r) s.env, lren (killF r) (ldel (· == r) s.rl)⟩
def lcut (r : Nat) : List (Nat × Row) → List (Nat × Row)
  | [] => []
  | (j, row) :: l => (j, row.cutIn r) :: lcut r l
def LSt.cutIn (r : Nat) (s : LSt) : LSt := ⟨D.cutInL r s.env, lcut r s.rl⟩
theorem zjp (r : Nat) (L : List (Nat × Row)) (i : Nat) : lget i (lcut r L) = (lget i L).map (Row.cutIn r) := by
  induction L with
  | nil => rfl
  | cons a L ih =>
    obtain ⟨j, row⟩ := a
    simp only [lcut, lget]
    by_cases h : i = j
    · subst h; simp only [if_true]; rfl
    · simp only [if_neg h]; exact ih
theorem zfe (r : Nat) (s : LSt) : (s.cutIn r).st = s.st.cutIn r := by
  unfold LSt.cutIn LSt.st St.cutIn
  congr 1
  funext i
  simp only [zd, zjp]
def lfreeze (Z : List Nat) : List (Nat × Row) → List (Nat × Row)
  | [] => []
  | (j, r) :: l => (j, if Z.contains j then ⟨false, r.c⟩ else r) :: lfreeze Z l
def LSt.freeze (Z : List Nat) (s : LSt) : LSt := ⟨s.env, lfreeze Z s.rl⟩
theorem put_st (dst : Option Tmp) (d : D) (s : LSt) : (s.put dst d).st = s.st.setD dst d := by cases dst <;> rfl
theorem z2b (r : Nat) (row : Row) (s : LSt) : (s.setRow r row).st = s.st.setRow r row := (zd2 r row s.env s.rl).symm
theorem z12 (r : Nat) (row : Row) (s : LSt) : (s.newRow r row).st = s.st.newRow r row := (zke r row s.env s.rl).symm
theorem move_st (a b : Nat) (s : LSt) : (s.move a b).st = s.st.move a b := (zk3 a b s.env s.rl).symm
theorem z7n (a : Nat) (s : LSt) : (s.forget a).st = s.st.forget a := (zg0 a s.env s.rl).symm
theorem drop_st (a : Nat) (s : LSt) : (s.drop a).st = s.st.drop a := (zaj a s.env s.rl).symm
theorem zjq (Z : List Nat) (L : List (Nat × Row)) (i : Nat) : lget i (lfreeze Z L) = match lget i L with | some r => if Z.contains i then some ⟨false, r.c⟩ else some r | none => none := by
  induction L with
  | nil => rfl
  | cons a L ih =>
    obtain ⟨j, r⟩ := a
    simp only [lfreeze, lget]
    by_cases h : i = j
    · subst h; simp only [if_true]; split <;> rfl
    · simp only [if_neg h]; exact ih
theorem zav (Z : List Nat) (s : LSt) : (s.freeze Z).st = s.st.freeze Z := by
  unfold LSt.freeze LSt.st St.freeze
  congr 1
  funext i
  simp only [zd, zjq]
  cases lget i s.rl with
  | none => rfl
  | some r => simp only
theorem st_rows (s : LSt) (i : Nat) : s.st.rows i = lget i s.rl := zd s.rl i
def bindAtL (k : NK) (i hm : Nat) (s : LSt) : LSt :=
  match s.env.getD i .any with
  | .rsl r _ n => if unbound r && (lget r s.rl).isSome && r != hm then s.move r hm else s
  | .nsl r _ => if loose r && (lget r s.rl).isSome && r != hm then s.move r hm else s
  | .rcs r _ _ => if unbound r && (lget r s.rl).isSome && r != hm then s.move r hm else s
  | .nil k' => match emptyN (if k' = .unk then k else k') with
    | some c => ⟨(s.newRow hm ⟨true, c⟩).env.set i (emptyD hm c), (s.newRow hm ⟨true, c⟩).rl⟩
    | none => s
  | _ => s
theorem z75 (k : NK) (i hm : Nat) (s : LSt) : (bindAtL k i hm s).st = bindAt k i hm s.st := by
  unfold bindAtL bindAt
  have he : s.st.env = s.env := rfl
  rw [he]
  cases s.env.getD i .any with
  | rsl r off n =>
    simp only [st_rows]
    split
    · exact move_st _ _ _
    · rfl
  | nsl r n =>
    simp only [st_rows]
    split
    · exact move_st _ _ _
    · rfl
  | rcs r sz n =>
    simp only [st_rows]
    split
    · exact move_st _ _ _
    · rfl
  | nil k' =>
    simp only
    generalize emptyN (if k' = NK.unk then k else k') = oc
    cases oc with
    | some c => simp only; rw [← z12]; rfl
    | none => rfl
  | _ => rfl
def z42 (hm : Nat → Nat) : (n i j : Nat) → LSt → LSt
  | 0, _, _, s => s
  | n + 1, i, j, s => z42 hm n (i + 1) (j + 1) (bindAtL .unk i (hm j) s)
theorem z74 (hm : Nat → Nat) : ∀ (n i j : Nat) (s : LSt), (z42 hm n i j s).st = bindAll hm n i j s.st
  | 0, _, _, _ => rfl
  | n + 1, i, j, s => by simp only [z42, bindAll]; rw [z74 hm n, z75]
def boxRowL (id : Nat) (cells : List D) (s : LSt) : LSt :=
  let s1 := z42 (home id) cells.length s.env.length 0 ⟨s.env ++ cells, s.rl⟩
  LSt.newRow id ⟨true, .var (D.renL (killF id) (s1.env.drop s.env.length))⟩ ⟨s1.env.take s.env.length, s1.rl⟩
theorem za0 (id : Nat) (cells : List D) (s : LSt) : (boxRowL id cells s).st = boxRow id cells s.st := by
  unfold boxRowL boxRow
  dsimp only
  rw [z12]
  have h := z74 (home id) cells.length s.env.length 0 ⟨s.env ++ cells, s.rl⟩
  have h2 : s.st.push cells = (⟨s.env ++ cells, s.rl⟩ : LSt).st := rfl
  have h3 : s.st.env.length = s.env.length := rfl
  rw [h2, h3, ← h]
  rfl
def z9e (r off : Nat) (cells : List D) (s : LSt) : Option LSt :=
  let s1 := z42 (fun j => home r (off + j)) cells.length s.env.length 0 ⟨s.env ++ (cells ++ [.ptr r off]), s.rl⟩
  match s1.env.getD (s.env.length + cells.length) .any with
  | .ptr r' off' => match lget r' s1.rl with
    | some ⟨true, .var old⟩ => if off' + cells.length ≤ old.length then some (LSt.setRow r' ⟨true, .var (setCells old off' ((s1.env.drop s.env.length).take cells.length))⟩ ⟨s1.env.take s.env.length, s1.rl⟩) else none
    | _ => none
  | _ => none
theorem zp5 (r off : Nat) (cells : List D) (s : LSt) : z2u r off cells s.st = (z9e r off cells s).map LSt.st := by
  unfold z9e z2u
  dsimp only
  have h := z74 (fun j => home r (off + j)) cells.length s.env.length 0 ⟨s.env ++ (cells ++ [.ptr r off]), s.rl⟩
  have h2 : s.st.push (cells ++ [.ptr r off]) = (⟨s.env ++ (cells ++ [.ptr r off]), s.rl⟩ : LSt).st := rfl
  have h3 : s.st.env.length = s.env.length := rfl
  rw [h2, h3, ← h]
  generalize z42 (fun j => home r (off + j)) cells.length s.env.length 0 ⟨s.env ++ (cells ++ [.ptr r off]), s.rl⟩ = s1
  have he : s1.st.env = s1.env := rfl
  rw [he]
  cases s1.env.getD (s.env.length + cells.length) .any with
  | ptr r' off' =>
    simp only [st_rows]
    cases lget r' s1.rl with
    | none => rfl
    | some row =>
      obtain ⟨wr, c⟩ := row
      cases wr with
      | false => rfl
      | true =>
        cases c with
        | var old =>
          simp only
          split
          · simp only [Option.map_some, z2b]; rfl
          · rfl
        | _ => rfl
  | _ => rfl
def mapV {α β : Type} (f : α → V β) : List α → V (List β)
  | [] => vpure []
  | a :: as => vbind (f a) fun b => vbind (mapV f as) fun bs => vpure (b :: bs)
def reifyV (rl : List (Nat × Row)) (Z : List Nat) : Nat → D → V D
  | 0, _ => vfail
  | n + 1, d => match d with
    | .fn f cap => vbind (mapV (reifyV rl Z n) cap) fun c => vpure (.fn f c)
    | .agg cs => vbind (mapV (reifyV rl Z n) cs) fun c => vpure (.agg c)
    | .tup cs => vbind (mapV (reifyV rl Z n) cs) fun c => vpure (.tup c)
    | .rsl r off m => if Z.contains r then match lget r rl with
      | some row => vbind (need (off + m ≤ row.c.len)) fun _ => immV row.c off m
      | none => vfail else vfail
    | .ptr r off => if Z.contains r then match lget r rl with
      | some ⟨_, .var cells⟩ => vbind (mapV (reifyV rl Z n) (cells.drop off)) fun c => vpure (.pim c)
      | _ => vfail else vfail
    | .pel r j => if Z.contains r then match lget r rl with
      | some row => if row.c.isVar then vfail else vbind (need (j < row.c.len)) fun _ => vpure (.pim [row.c.getT j])
      | none => vfail else vfail
    | .mpr _ => vfail
    | .npe _ _ => vfail
    | .nep _ _ _ => vfail
    | .nsl r m => if Z.contains r then match lget r rl with
      | some ⟨_, .nest k xss⟩ => vbind (need (m = xss.length)) fun _ => vpure (.imm2 k xss)
      | _ => vfail else vfail
    | .nel r j m => if Z.contains r then match lget r rl with
      | some ⟨_, .nest k xss⟩ => vbind (need (j < xss.length)) fun _ => vbind (need (m = (xss.getD j []).length)) fun _ => vpure (.immI k (xss.getD j []))
      | _ => vfail else vfail
    | .rcs r sz m => if Z.contains r then match lget r rl with
      | some ⟨_, .recs sh ps⟩ => if sz = sh.length then vbind (need (m = ps.length)) fun _ => vpure (.immR sh ps) else vfail
      | _ => vfail else vfail
    | .rpe _ _ _ _ => vfail
    | d => vpure d
def settleV (s : LSt) (d : D) : V (D × LSt) :=
  vbind (reifyV s.rl (reach (rowsOf s.rl) [d]) allRows d) fun d' => vpure (d', if (reach (rowsOf s.rl) [d]).isEmpty then s else s.freeze (reach (rowsOf s.rl) [d]))
def setV (c : Cont) (j : Nat) (d : D) : V Cont :=
  match c, d with
  | .ints k xs, .int k' n => if k = k' then vbind (need (j < xs.length)) fun _ => vpure (.ints k (xs.set j n)) else vfail
  | .bools xs, .bool b => vbind (need (j < xs.length)) fun _ => vpure (.bools (xs.set j b))
  | .ints2 k xss, .immI k' xs => if k = k' then vbind (need (j < xss.length)) fun _ => vpure (.ints2 k (xss.set j xs)) else vfail
  | .ints2 k xss, .nil _ => vbind (need (j < xss.length)) fun _ => vpure (.ints2 k (xss.set j []))
  | .gen els, d => if d.plain then vbind (need (j < els.length)) fun _ => vpure (.gen (els.set j d)) else vfail
  | _, _ => vfail
def storeV (i : TI) (addr val : D) (s : LSt) : V LSt :=
  match addr with
  | .ptr r off => if val.known && val.cells.length == i.size && val.cells.all D.isCell then ofO (z9e r off val.cells s) else vfail
  | .pel r j => if i.size = 1 ∧ i.agg = false then vbind (settleV s val) fun p => match lget r p.2.rl with
      | some ⟨true, c⟩ => if c.isVar then vfail else vbind (setV c j p.1) fun c' => vpure (p.2.setRow r ⟨true, c'⟩)
      | _ => vfail
    else vfail
  | .nep r j q => if i.size = 1 ∧ i.agg = false then match lget r s.rl, val with
      | some ⟨true, .nest k xss⟩, .int k' x => if k = k' then vbind (need (j < xss.length)) fun _ => vbind (need (q < (xss.getD j []).length)) fun _ => vpure (s.setRow r ⟨true, .nest k (xss.set j ((xss.getD j []).set q x))⟩) else vfail
      | _, _ => vfail
    else vfail
  | .npe r j => if i.size = 1 ∧ i.agg = false then match lget r s.rl, val with
      | some ⟨true, .nest k xss⟩, .rsl q 0 m => match lget q s.rl with
        | some ⟨true, .ints k' xs⟩ => if k = k' ∧ r ≠ q ∧ r < 500000 then vbind (need (j < xss.length)) fun _ => vbind (need (m = xs.length)) fun _ => vpure ((((s.cutIn r).forget r).drop q).setRow r ⟨true, .nest k (xss.set j xs)⟩) else vfail
        | _ => vfail
      | _, _ => vfail
    else vfail
  | .rpe r sz j f => vbind (settleV s val) fun p => match lget r p.2.rl with
      | some ⟨true, .recs sh ps⟩ => if sz = sh.length ∧ p.1.known = true ∧ p.1.cells.length = i.size ∧ p.1.cells.all D.isCell = true ∧ f + i.size ≤ sz then
          vbind (need (j < ps.length)) fun _ => match packP sh (setCells (cellsOf sh (rcdAt ps j)) f p.1.cells) with
            | some q => vpure (p.2.setRow r ⟨true, .recs sh (ps.set j q)⟩)
            | none => vfail
        else vfail
      | _ => vfail
  | _ => vfail
def buildCV (nk : NK) : List D → Cont → LSt → V (Cont × LSt)
  | [], c, s => vpure (c, s)
  | d :: rest, c, s => vbind (settleV s d) fun p => match c, p.1 with
      | .ints k xs, .int k' n => if k = k' then buildCV nk rest (.ints k (xs ++ [n])) p.2 else vfail
      | .bools xs, .bool b => buildCV nk rest (.bools (xs ++ [b])) p.2
      | .ints2 k xss, .immI k' xs => if k = k' then buildCV nk rest (.ints2 k (xss ++ [xs])) p.2 else vfail
      | .ints2 k xss, .nil _ => buildCV nk rest (.ints2 k (xss ++ [[]])) p.2
      | .gen els, d' => if d'.plain then buildCV nk rest (.gen (els ++ [d'])) p.2 else vfail
      | _, _ => vfail
def buildRV (sh : List FK) : List D → LSt → V (List Rcd × LSt)
  | [], s => vpure ([], s)
  | d :: rest, s => vbind (settleV s d) fun p => match p.1 with
    | .agg cells => match packP sh cells with
      | some q => vbind (buildRV sh rest p.2) fun r => vpure (q :: r.1, r.2)
      | none => vfail
    | _ => vfail
def subV (c : Cont) (off n : Nat) : V Cont :=
  vbind (vtell 1 (off = 0 ∧ n = c.len)) fun b => if b then vbind (need (off = 0 ∧ n = c.len)) fun _ => (if c.isVar then vfail else vpure c) else vbind (need (off + n ≤ c.len)) fun _ => match c with
    | .ints k xs => vpure (.ints k ((xs.drop off).take n))
    | .bools xs => vpure (.bools ((xs.drop off).take n))
    | .ints2 k xs => vpure (.ints2 k ((xs.drop off).take n))
    | .gen xs => vpure (.gen ((xs.drop off).take n))
    | .var _ => vfail
    | .mp _ _ _ => vfail
    | .nest _ _ => vfail
    | .recs _ _ => vfail
def srcV (rl : List (Nat × Row)) (y : D) : V (Option Cont) :=
  match y with
  | .nil _ => vpure none
  | .rsl r off n => match lget r rl with
    | some row => if row.c.isVar then vfail else vbind (need (off + n ≤ row.c.len)) fun _ => vbind (subV row.c off n) fun c => vpure (some c)
    | none => vfail
  | d => match d.cont with
    | some c => vpure (some c)
    | none => vfail
section
variable {X : Ctx} {cl : CL'} {lp : LP'} {s : LSt}
theorem z3p {α β : Type} {f : α → V β} {f0 : α → Option β} (h : ∀ a, Sim cl lp (f a) (f0 a) id) : ∀ (l : List α), Sim cl lp (mapV f l) (mapO f0 l) id
  | [] => Sim.pure rfl
  | a :: l => Sim.bind (h a) fun b hb => Sim.bind (z3p h l) fun bs hbs => Sim.pure (by simp only [id] at hb hbs; simp only [mapO, hb, hbs]; rfl)
theorem z6e (Z : List Nat) : ∀ (n : Nat) (d : D), Sim cl lp (reifyV s.rl Z n d) (reify s.st.rows Z n d) id
  | 0, d => Sim.fail
  | n + 1, d => by
    have ih := z6e Z n
    cases d with
    | fn f cap => exact Sim.bind (z3p ih cap) fun c hc => Sim.pure (by simp only [id] at hc; simp only [reify, hc]; rfl)
    | agg cs => exact Sim.bind (z3p ih cs) fun c hc => Sim.pure (by simp only [id] at hc; simp only [reify, hc]; rfl)
    | tup cs => exact Sim.bind (z3p ih cs) fun c hc => Sim.pure (by simp only [id] at hc; simp only [reify, hc]; rfl)
    | rsl r off m =>
      simp only [reifyV]
      split
      · rename_i hZ
        split
        · rename_i row hrow
          refine Sim.needs fun h => ?_
          have : reify s.st.rows Z (n + 1) (.rsl r off m) = row.c.imm off m := by simp only [reify, hZ, if_true, st_rows, hrow, if_pos h]
          rw [this]; exact zb0 _ _ _
        · exact Sim.fail
      · exact Sim.fail
    | ptr r off =>
      simp only [reifyV]
      split
      · rename_i hZ
        split
        · rename_i wr cells hrow
          refine Sim.bind (z3p ih (cells.drop off)) fun c hc => Sim.pure ?_
          simp only [id] at hc
          simp only [reify, hZ, if_true, st_rows, hrow, hc]; rfl
        · exact Sim.fail
      · exact Sim.fail
    | pel r j =>
      simp only [reifyV]
      split
      · rename_i hZ
        split
        · rename_i row hrow
          split
          · exact Sim.fail
          · rename_i hv
            refine Sim.needs fun h => Sim.pure ?_
            simp only [reify, hZ, if_true, st_rows, hrow, if_neg hv, Cont.get_getT (c := row.c) (by cases e : row.c.isVar with | false => rfl | true => exact absurd e hv) h]; rfl
        · exact Sim.fail
      · exact Sim.fail
    | mpr r => exact Sim.fail
    | npe r j => exact Sim.fail
    | nep r j i => exact Sim.fail
    | rpe r sz j f => exact Sim.fail
    | rcs r sz m =>
      simp only [reifyV]
      split
      · rename_i hZ
        split
        · rename_i wr sh ps hrow
          split
          · rename_i hs
            refine Sim.needs fun h => Sim.pure ?_
            simp only [reify, hZ, if_true, st_rows, hrow, if_pos (And.intro hs h)]; rfl
          · exact Sim.fail
        · exact Sim.fail
      · exact Sim.fail
    | nsl r m =>
      simp only [reifyV]
      split
      · rename_i hZ
        split
        · rename_i wr k xss hrow
          refine Sim.needs fun h => Sim.pure ?_
          simp only [reify, hZ, if_true, st_rows, hrow, if_pos h]; rfl
        · exact Sim.fail
      · exact Sim.fail
    | nel r j m =>
      simp only [reifyV]
      split
      · rename_i hZ
        split
        · rename_i wr k xss hrow
          refine Sim.needs fun h => Sim.needs fun h2 => Sim.pure ?_
          have hx : xss[j]? = some (xss.getD j []) := by rw [List.getD_eq_getElem?_getD, List.getElem?_eq_getElem h]; rfl
          simp only [reify, hZ, if_true, st_rows, hrow, hx, if_pos h2]; rfl
        · exact Sim.fail
      · exact Sim.fail
    | _ => exact Sim.pure rfl
def pairSt {α : Type} (p : α × LSt) : α × St := (p.1, p.2.st)
theorem z6i (d : D) : Sim cl lp (settleV s d) (settle s.st d) pairSt := by
  unfold settleV
  refine Sim.bind (z6e _ _ d) fun d' hd => Sim.pure ?_
  simp only [id] at hd
  unfold settle
  have e : s.st.rows = rowsOf s.rl := rfl
  dsimp only
  rw [e] at hd ⊢
  rw [hd]
  simp only [Option.map_some, pairSt]
  split <;> simp [zav]
theorem zd3 (c : Cont) (j : Nat) (d : D) : Sim cl lp (setV c j d) (c.set j d) id := by
  unfold setV
  split
  · split
    · rename_i e; subst e; exact Sim.needs fun h => Sim.pure (by simp [Cont.set, h])
    · exact Sim.fail
  · exact Sim.needs fun h => Sim.pure (by simp [Cont.set, h])
  · split
    · rename_i e; subst e; exact Sim.needs fun h => Sim.pure (by simp [Cont.set, h])
    · exact Sim.fail
  · exact Sim.needs fun h => Sim.pure (by simp [Cont.set, h])
  · split
    · rename_i e; exact Sim.needs fun h => Sim.pure (by simp [Cont.set, h, e])
    · exact Sim.fail
  · exact Sim.fail
theorem zp3 (i : TI) (addr val : D) : Sim cl lp (storeV i addr val s) (storeD X s.st i addr val) LSt.st := by
  unfold storeV
  split
  · rename_i r off
    split
    · rename_i hc
      refine Sim.opt' fun x hx => ?_
      simp only [storeD, if_pos hc, zp5, hx]; rfl
    · exact Sim.fail
  · rename_i r j
    split
    · rename_i hc
      refine Sim.bind (z6i val) fun p hp => ?_
      split
      · rename_i c hrow
        split
        · exact Sim.fail
        · rename_i hv
          refine Sim.bind (zd3 c j p.1) fun c' hc' => Sim.pure ?_
          simp only [id] at hc'
          simp only [storeD, if_pos hc, hp, pairSt, st_rows, hrow, if_neg hv, hc', Option.map_some, z2b]
      · exact Sim.fail
    · exact Sim.fail
  · rename_i r j q
    split
    · rename_i hc
      split
      · rename_i k xss k' x' hrow
        split
        · rename_i hk
          refine Sim.needs fun h1 => Sim.needs fun h2 => Sim.pure ?_
          simp only [storeD, if_pos hc, st_rows, hrow]
          rw [if_pos ⟨hk, h1, h2⟩, z2b]
        · exact Sim.fail
      · exact Sim.fail
    · exact Sim.fail
  · split
    · rename_i hc
      split
      · rename_i k xss q m hrow
        split
        · rename_i k' xs hrow2
          split
          · rename_i hk
            refine Sim.needs fun h1 => Sim.needs fun h2 => Sim.pure ?_
            simp only [storeD, if_pos hc, st_rows, hrow, hrow2]
            rw [if_pos ⟨hk.1, hk.2.1, hk.2.2, h1, h2⟩, z2b, drop_st, z7n, zfe]
          · exact Sim.fail
        · exact Sim.fail
      · exact Sim.fail
    · exact Sim.fail
  · rename_i r sz j f
    refine Sim.bind (z6i val) fun p hp => ?_
    split
    · rename_i sh ps hrow
      split
      · rename_i hc
        refine Sim.needs fun h => ?_
        split
        · rename_i q hq
          refine Sim.pure ?_
          simp only [storeD, hp, pairSt, st_rows, hrow]
          rw [if_pos ⟨hc.1, h, hc.2⟩, hq, Option.map_some, z2b]
        · exact Sim.fail
      · exact Sim.fail
    · exact Sim.fail
  · exact Sim.fail
def bstep (X : Ctx) (nk : NK) (ds : List D) (c : Cont) (d' : D) (st : St) : Option (Cont × St) :=
  match c, d' with
  | .ints k xs, .int k' n => if k = k' then buildC X nk ds (.ints k (xs ++ [n])) st else none
  | .bools xs, .bool b => buildC X nk ds (.bools (xs ++ [b])) st
  | .ints2 k xss, .immI k' xs => if k = k' then buildC X nk ds (.ints2 k (xss ++ [xs])) st else none
  | .ints2 k xss, .nil _ => buildC X nk ds (.ints2 k (xss ++ [[]])) st
  | .gen els, d' => if d'.plain then buildC X nk ds (.gen (els ++ [d'])) st else none
  | _, _ => none
theorem zey {nk : NK} {d d' : D} {ds : List D} {c : Cont} {st st' : St} (h : settle st d = some (d', st')) : buildC X nk (d :: ds) c st = bstep X nk ds c d' st' := by
  simp only [buildC, h]
  cases c <;> cases d' <;> rfl
theorem z43 (nk : NK) : ∀ (ds : List D) (c : Cont) (s : LSt), Sim cl lp (buildCV nk ds c s) (buildC X nk ds c s.st) pairSt
  | [], c, s => Sim.pure rfl
  | d :: ds, c, s => by
    refine Sim.bind (z6i d) fun p hp => ?_
    obtain ⟨d', s'⟩ := p
    simp only [pairSt] at hp
    rw [zey hp]
    unfold bstep
    dsimp only
    split
    · split
      · exact z43 nk ds _ s'
      · exact Sim.fail
    · exact z43 nk ds _ s'
    · split
      · exact z43 nk ds _ s'
      · exact Sim.fail
    · exact z43 nk ds _ s'
    · split
      · exact z43 nk ds _ s'
      · exact Sim.fail
    · exact Sim.fail
theorem z7b (sh : List FK) : ∀ (ds : List D) (s : LSt), Sim cl lp (buildRV sh ds s) (buildR sh ds s.st) fun p => (p.1, p.2.st)
  | [], s => Sim.pure rfl
  | d :: ds, s => by
    refine Sim.bind (z6i d) fun p hp => ?_
    obtain ⟨d', s'⟩ := p
    simp only [pairSt] at hp
    dsimp only
    split
    · rename_i cells
      split
      · rename_i q hq
        refine Sim.bind (z7b sh ds s') fun r hr => Sim.pure ?_
        simp only [buildR, hp, hq, hr, Option.map_some]
      · exact Sim.fail
    · exact Sim.fail
theorem z9f (c : Cont) (off n : Nat) : Sim cl lp (subV c off n) (c.sub off n) id := by
  unfold subV
  refine Sim.tell fun b => ?_
  cases b with
  | true =>
    simp only [if_true]
    refine Sim.needs fun h => ?_
    obtain ⟨rfl, rfl⟩ := h
    split
    · exact Sim.fail
    · rename_i hv
      cases c <;> first | exact (hv rfl).elim | exact Sim.pure (by simp [Cont.sub, subL, Cont.len])
  | false =>
    simp only [Bool.false_eq_true, if_false]
    refine Sim.needs fun h => ?_
    cases c <;> first | exact Sim.fail | exact Sim.pure (by simp only [Cont.sub]; rw [subL_eq _ _ _ (by simpa [Cont.len] using h)]; rfl)
theorem zdu (y : D) : Sim cl lp (srcV s.rl y) (srcC s.st.rows y) id := by
  unfold srcV
  split
  · exact Sim.pure rfl
  · rename_i r off n
    split
    · rename_i row hrow
      split
      · exact Sim.fail
      · rename_i hv
        refine Sim.needs fun h => Sim.bind (z9f row.c off n) fun c hc => Sim.pure ?_
        simp only [id] at hc
        have hcond : ¬ (row.c.isVar = true ∨ ¬ off + n ≤ row.c.len) := by simp [hv, h]
        simp only [srcC, st_rows, hrow, if_neg hcond, hc]; rfl
    · exact Sim.fail
  · rename_i h1 h2
    split
    · rename_i c hc
      refine Sim.pure ?_
      unfold srcC
      split
      · exact (h1 _ rfl).elim
      · exact (h2 _ _ _ rfl).elim
      · rw [hc]; rfl
    · exact Sim.fail
end
end Go.PR

end

section
namespace Go.PR
open Go
def appendV (id : Nat) (ei : TI) (nk : NK) (x y : D) (s : LSt) : V (D × LSt) :=
  if ei.size = 1 ∧ ei.bytes ≤ 64 then vbind (srcV s.rl y) fun oc => match oc with
    | none => match x with
      | .nil k => vpure (.nil (if k = .unk then nk else k), s)
      | .rsl r off n => vpure (.rsl r off n, s)
      | _ => vfail
    | some cy => match x with
      | .nil _ => vbind (need (cy.len ≤ lim)) fun _ => vpure (.rsl id 0 cy.len, s.newRow id ⟨true, cy⟩)
      | .rsl r off n => match lget r s.rl with
        | some ⟨true, cx⟩ => if cx.isVar then vfail else vbind (vtell 3 (off + n = cx.len)) fun b =>
            if b then vbind (need (off + n = cx.len ∧ n + cy.len ≤ lim)) fun _ => vbind (subV cx off n) fun c0 => vbind (ofO (c0.app cy)) fun c => vpure (.rsl id 0 c.len, (s.forget r).newRow id ⟨true, c⟩)
            else vbind (need (off + n ≠ cx.len ∧ off + n + cy.len ≤ cx.len)) fun _ => vbind (ofO (cx.over (off + n) cy)) fun c => vpure (.rsl r off (n + cy.len), s.setRow r ⟨true, c⟩)
        | _ => vfail
      | _ => vfail
  else vfail
def z72 (id : Nat) (ei : TI) (nk : NK) (x y : D) (s : LSt) : V (D × LSt) :=
  if ei.size = 1 ∧ ei.bytes ≤ 64 then match x, y with
    | .nil _, .int _ n => vbind (need (0 < n ∧ n ≤ lim)) fun _ => vbind (ofO (zeroC nk ei.zero n.toNat)) fun c => vpure (.rsl id 0 n.toNat, s.newRow id ⟨true, c⟩)
    | _, _ => vfail
  else vfail
def copyV (x y : D) (s : LSt) : V (D × LSt) :=
  vbind (srcV s.rl y) fun oc => match oc with
    | none => match x with
      | .nil _ => vpure (.int .i64 0, s)
      | .rsl _ _ _ => vpure (.int .i64 0, s)
      | _ => vfail
    | some cy => match x with
      | .nil _ => vpure (.int .i64 0, s)
      | .rsl r off n => vbind (vtell 4 (min cy.len n = 0)) fun b =>
          if b then vbind (need (min cy.len n = 0)) fun _ => vpure (.int .i64 0, s)
          else vbind (need (min cy.len n ≠ 0)) fun _ => match lget r s.rl with
            | some ⟨true, cx⟩ => if cx.isVar then vfail else vbind (need (off + n ≤ cx.len)) fun _ => vbind (subV cy 0 (min cy.len n)) fun c0 => vbind (ofO (cx.over off c0)) fun c => vpure (.int .i64 (min cy.len n : Nat), s.setRow r ⟨true, c⟩)
            | _ => vfail
      | _ => vfail
def clearV (nk : NK) (zero : List D) (x : D) (s : LSt) : V (D × LSt) :=
  match x with
  | .nil _ => vpure (.tup [], s)
  | .rsl r off n => vbind (vtell 4 (n = 0)) fun b =>
      if b then vbind (need (n = 0)) fun _ => vpure (.tup [], s)
      else vbind (need (n ≠ 0)) fun _ => match lget r s.rl with
        | some ⟨true, cx⟩ => if cx.isVar then vfail else vbind (need (off + n ≤ cx.len)) fun _ => vbind (ofO (zeroC nk zero n)) fun c0 => vbind (ofO (cx.over off c0)) fun c => vbind (vtell 5 (off + n = cx.len)) fun b2 => if b2 then vbind (need (off + n = cx.len)) fun _ => vbind (ofO (cx.upto off)) fun c2 => vpure (.tup [], s.setRow r ⟨true, c2⟩) else vbind (need (¬ off + n = cx.len)) fun _ => vpure (.tup [], s.setRow r ⟨true, c⟩)
        | _ => vfail
  | _ => vfail
def z8i (nk : NK) (id : Nat) (ds : List D) (s : LSt) : V (D × LSt) :=
  match ds with
  | [] => match nk with
    | .ints2 k => vpure (.nsl id 0, s.newRow id ⟨true, .nest k []⟩)
    | _ => vfail
  | [.rsl q 0 m] => match lget q s.rl with
    | some ⟨true, .ints k xs⟩ => vbind (need (m = xs.length)) fun _ => vpure (.nsl id 1, (s.drop q).newRow id ⟨true, .nest k [xs]⟩)
    | _ => vfail
  | _ => vfail
def z8j (nk : NK) (zero : List D) (id n : Nat) (s : LSt) : V (D × LSt) :=
  match nk, zero with
  | .ints2 k, [.nil .unk] => vpure (.nsl id n, s.newRow id ⟨true, .nest k (List.replicate n [])⟩)
  | _, _ => vfail
def z8h (ei : TI) (id : Nat) (x y : D) (s : LSt) : V (D × LSt) :=
  if ei.size = 1 ∧ ei.bytes ≤ 64 then
    match y with
    | .nsl q m => match lget q s.rl with
      | some ⟨true, .nest k yss⟩ => match x with
        | .nil _ => vbind (need (m = yss.length ∧ 0 < m ∧ m ≤ lim)) fun _ => vpure (.nsl id m, (s.drop q).newRow id ⟨true, .nest k yss⟩)
        | .nsl r n => match lget r s.rl with
          | some ⟨true, .nest k' xss⟩ => if r ≠ q ∧ k = k' then vbind (need (m = yss.length ∧ 0 < m ∧ n = xss.length ∧ n + m ≤ lim)) fun _ => vpure (.nsl id (n + m), ((s.drop q).drop r).newRow id ⟨true, .nest k (xss ++ yss)⟩) else vfail
          | _ => vfail
        | _ => vfail
      | _ => vfail
    | _ => vfail
  else vfail
def recSrcV (rl : List (Nat × Row)) : D → V (List FK × List Rcd)
  | .rcs q sz m => match lget q rl with
    | some ⟨_, .recs sh ys⟩ => if sz = sh.length then vbind (need (m = ys.length)) fun _ => vpure (sh, ys) else vfail
    | _ => vfail
  | .immR sh ys => vpure (sh, ys)
  | _ => vfail
def recAppV (ei : TI) (id : Nat) (x y : D) (s : LSt) : V (D × LSt) :=
  vbind (recSrcV s.rl y) fun p =>
    if ei.size = p.1.length ∧ 0 < p.1.length ∧ ei.bytes ≤ 128 then
      match x with
      | .nil _ => vbind (need (0 < p.2.length ∧ p.2.length ≤ lim)) fun _ => vpure (.rcs id p.1.length p.2.length, s.newRow id ⟨true, .recs p.1 p.2⟩)
      | .rcs r sz n => match lget r s.rl with
        | some ⟨true, .recs sh' xs⟩ => if sh' = p.1 ∧ sz = p.1.length then vbind (need (n = xs.length ∧ 0 < p.2.length ∧ n + p.2.length ≤ lim)) fun _ => vpure (.rcs id p.1.length (xs ++ p.2).length, (s.forget r).newRow id ⟨true, .recs p.1 (xs ++ p.2)⟩) else vfail
        | _ => vfail
      | _ => vfail
    else vfail
def z8s (sh : List FK) (zero : List D) (id n : Nat) (s : LSt) : V (D × LSt) :=
  match packP sh zero with
  | some p => vpure (.rcs id sh.length n, s.newRow id ⟨true, .recs sh (List.replicate n p)⟩)
  | none => vfail
def z71 (id : Nat) (ei : TI) (nk : NK) (x y : D) (s : LSt) : V (D × LSt) :=
  if isN y then z8h ei id x y s else if isR y then recAppV ei id x y s else appendV id ei nk x y s
def z2i : List Nat → LSt → LSt
  | [], s => s
  | i :: is, s => z2i is (s.drop i)
theorem z7i : ∀ (is : List Nat) (s : LSt), (z2i is s).st = dropAll is s.st
  | [], _ => rfl
  | i :: is, s => by simp only [z2i, dropAll]; rw [z7i is, drop_st]
def callV (X : Ctx) (dst : Nat) (f : FuncId) (args : List D) (s : LSt) : V (D × LSt) :=
  if X.byref f then
    let ids := reach (rowsOf s.rl) args
    match mapO (fun i => lget i s.rl) ids with
    | some rows =>
      if rows.all (·.wr) && decide (ids.length ≤ 1000) && nodupB ids then
        vbind (vcall f (D.renL (inF ids) args) (rows.map (·.ren (inF ids)))) fun r =>
          if decide (r.passed.length = ids.length) && decide (r.out.length ≤ 40) && (outIds dst r.out.length).all (fun i => !ids.contains i) then
            vpure (r.res.ren (outF ids dst r.out.length), ⟨(z2i (gone ids r ++ outIds dst r.out.length) s).env, outL ids dst r.out.length 0 r.out ++ (passL ids dst r.out.length ids r.passed ++ ldel (fun i => (outIds dst r.out.length).contains i || ids.contains i) (z2i (gone ids r ++ outIds dst r.out.length) s).rl)⟩)
          else vfail
      else vfail
    | none => vfail
  else
    let Z := reach (rowsOf s.rl) args
    vbind (mapV (reifyV s.rl Z allRows) args) fun args' => vbind (vcall f args' []) fun r =>
      if r.passed.isEmpty && decide (r.out.length ≤ 40) then
        let s0 := if Z.isEmpty || (r.res.noImm && r.out.all fun x => x.wr && x.c.noImm) then s else s.freeze Z
        vpure (r.res.ren (outF [] dst r.out.length), ⟨(z2i (outIds dst r.out.length) s0).env, outL [] dst r.out.length 0 r.out ++ ldel (fun i => (outIds dst r.out.length).contains i) (z2i (outIds dst r.out.length) s0).rl⟩)
      else vfail
def putP (dst : Option Tmp) (p : D × LSt) : LSt := p.2.put dst p.1
def mapPutV (X : Ctx) (ke el : TypeId) (m k v : D) (s : LSt) : V LSt :=
  match mapKV X ke el, m with
  | some (kk, vk), .mpr r => match lget r s.rl with
    | some ⟨true, .mp kk' vk' es⟩ => if kk = kk' ∧ vk = vk' then match keyD kk k, valD vk v with
        | some key, some x => vpure (s.setRow r ⟨true, .mp kk vk (mset kk es key x)⟩)
        | _, _ => vfail
      else vfail
    | _ => vfail
  | _, _ => vfail
def stepV (X : Ctx) (o : Oper) (s : LSt) : V LSt :=
  match o.op, o.dst with
  | .assign x, some t => if t < 1000 then vpure (bindAtL (nkAt X o) t t (s.put (some t) (ev X s.st x))) else vfail
  | .alloc t, some d => match X.tt t with
    | some i => vpure ((boxRowL (nid d) (zeroAt X o t i) s).put (some d) (.ptr (nid d) 0))
    | none => vfail
  | .box t x, some d => match X.tt t with
    | some i => if (ev X s.st x).known && (ev X s.st x).cells.length == i.size && (ev X s.st x).cells.all D.isCell then vpure ((boxRowL (nid d) (ev X s.st x).cells s).put (some d) (.ptr (nid d) 0)) else vfail
    | none => vfail
  | .store t ad x, none => match X.tt t with
    | some i => storeV i (ev X s.st ad) (ev X s.st x) s
    | none => vfail
  | .makeMap t hint, some d => match X.tt t with
    | some ⟨.map ke el, _, _, _⟩ => match mapKV X ke el with
      | some (kk, vk) => if hintOK X s.st hint then vpure ((s.newRow (nid d) ⟨true, .mp kk vk []⟩).put (some d) (.mpr (nid d))) else vfail
      | none => vfail
    | _ => vfail
  | .mapUpdate t m k v, none => match X.tt t with
    | some ⟨.map ke el, _, _, _⟩ => mapPutV X ke el (ev X s.st m) (ev X s.st k) (ev X s.st v) s
    | _ => vfail
  | .insert t m k v, none => match X.tt t with
    | some ⟨.map ke el, _, _, _⟩ => mapPutV X ke el (ev X s.st m) (ev X s.st k) (ev X s.st v) s
    | _ => vfail
  | .buildSlice t n parts, some d => match elemOf X t with
    | some (e, ei) => if ei.size = 1 ∧ n ≤ 1000000 then
        match parts01 0 (parts.toList.map fun p => (p.1, ev X s.st p.2)) with
        | some ds => if ds.length = n then
            if nestAt X o e then vbind (z8i (nkElem X e) (nid d) ds s) fun p => vpure (putP (some d) p) else
            match emptyC (nkElem X e) with
            | some c0 => vbind (buildCV (nkElem X e) ds c0 s) fun p => vpure ((p.2.newRow (nid d) ⟨true, p.1⟩).put (some d) (.rsl (nid d) 0 n))
            | none => vfail
          else vfail
        | none => vfail
      else if ei.agg = true ∧ n ≤ 1000 ∧ ei.size ≤ 1000 then
        match parts01 0 (parts.toList.map fun p => (p.1, ev X s.st p.2)), shOf X ei with
        | some ds, some sh => if ds.length = n ∧ sh.length = ei.size then if X.nestPos o.pos then vbind (buildRV sh ds s) fun p => vpure ((p.2.newRow (nid d) ⟨true, .recs sh p.1⟩).put (some d) (.rcs (nid d) sh.length n)) else vbind (buildRV sh ds s) fun p => vpure (p.2.put (some d) (.immR sh p.1)) else vfail
        | _, _ => vfail
      else vfail
    | none => vfail
  | .makeSlice t l c, some d => match elemOf X t, ev X s.st l, ev X s.st c with
    | some (e, ei), .int _ n, .int _ m => if ei.size = 1 ∧ ei.bytes ≤ 64 then vbind (need (0 ≤ n ∧ n ≤ m ∧ m ≤ lim)) fun _ =>
        if nestAt X o e then vbind (z8j (nkElem X e) ei.zero (nid d) n.toNat s) fun p => vpure (putP (some d) p) else
        vbind (ofO (zeroC (nkElem X e) ei.zero n.toNat)) fun c => vpure ((s.newRow (nid d) ⟨true, c⟩).put (some d) (.rsl (nid d) 0 n.toNat))
      else if ei.agg = true ∧ X.nestPos o.pos = true ∧ (0 < ei.size ∧ ei.size ≤ 1000) ∧ ei.bytes ≤ 128 then vbind (need (0 ≤ n ∧ n ≤ m ∧ m ≤ lim)) fun _ => match shOf X ei with
        | some sh => if sh.length = ei.size then vbind (z8s sh ei.zero (nid d) n.toNat s) fun p => vpure (putP (some d) p) else vfail
        | none => vfail
      else vfail
    | _, _, _ => vfail
  | .call { callee := .builtin .append, args, argTypes }, some d => match args.toList, argTypes.toList with
    | [x, y], [t, ty] => match elemOf X t, X.tt ty with
      | some (e, ei), some ⟨.slice _, _, _, _⟩ => vbind (z71 (nid d) ei (nkElem X e) (ev X s.st x) (ev X s.st y) s) fun p => vpure (putP (some d) p)
      | some (e, ei), some ⟨.int _, _, _, _⟩ => vbind (z72 (nid d) ei (nkElem X e) (ev X s.st x) (ev X s.st y) s) fun p => vpure (putP (some d) p)
      | _, _ => vfail
    | _, _ => vfail
  | .call { callee := .builtin .copy, args, argTypes }, dst => match args.toList, argTypes.toList with
    | [x, y], [t, ty] => match elemOf X t, X.tt ty with
      | some (e, ei), some ⟨.slice _, _, _, _⟩ => if ei.size = 1 then vbind (copyV (ev X s.st x) (ev X s.st y) s) fun p => vpure (putP dst p) else vfail
      | _, _ => vfail
    | _, _ => vfail
  | .call { callee := .builtin .clear, args, argTypes }, dst => match args.toList, argTypes.toList with
    | [x], [t] => match elemOf X t with
      | some (e, ei) => if ei.size = 1 then vbind (clearV (nkElem X e) ei.zero (ev X s.st x) s) fun p => vpure (putP dst p) else vfail
      | none => vfail
    | _, _ => vfail
  | .call { callee := .value g, args, argTypes }, some d => match ev X s.st g with
    | .fn f cap => if (X.ft f).isNone then vfail else vbind (callV X d f (args.toList.map (ev X s.st) ++ cap) s) fun p => vpure (putP (some d) p)
    | _ => vfail
  | _, _ => vbind (quietV X s o) fun d => vpure (s.put o.dst d)
section
variable {X : Ctx} {cl : CL'} {lp : LP'} {s : LSt}
theorem app_len {a b c : Cont} (h : a.app b = some c) : c.len = a.len + b.len := by
  cases a <;> cases b <;> simp only [Cont.app] at h <;> first | (split at h <;> cases h <;> simp [Cont.len]; done) | (cases h; simp [Cont.len]; done) | cases h
  all_goals (split at h <;> first | (cases h; simp [Cont.len]; done) | cases h)
theorem zp6 {α : Type} (xs : List α) {off n : Nat} (h : off + n ≤ xs.length) : (subL xs off n).length = n := by
  unfold subL
  split
  · rename_i e; omega
  · simp; omega
theorem sub_len {a c : Cont} {off n : Nat} (h : a.sub off n = some c) (hl : off + n ≤ a.len) : c.len = n := by
  cases a <;> simp only [Cont.sub] at h <;> cases h <;> exact zp6 _ hl
theorem z9o (id : Nat) (ei : TI) (nk : NK) (x y : D) : Sim cl lp (appendV id ei nk x y s) (appendD X id ei nk x y s.st) pairSt := by
  unfold appendV
  split
  case isFalse => exact Sim.fail
  rename_i hsz
  refine Sim.bind (zdu y) fun oc hoc => ?_
  simp only [id_eq] at hoc
  cases oc with
  | none =>
    simp only
    cases x with
    | nil k => exact Sim.pure (by simp only [appendD, if_pos hsz, hoc, pairSt])
    | rsl r off n => exact Sim.pure (by simp only [appendD, if_pos hsz, hoc, pairSt])
    | _ => exact Sim.fail
  | some cy =>
    simp only
    cases x with
    | nil k => exact Sim.needs fun h => Sim.pure (by simp only [appendD, if_pos hsz, hoc, if_pos h, pairSt, z12])
    | rsl r off n =>
      simp only
      split
      · rename_i cx hrow
        split
        · exact Sim.fail
        · rename_i hv
          refine Sim.tell fun b => ?_
          cases b with
          | true =>
            simp only [if_true]
            refine Sim.needs fun h => Sim.bind (z9f cx off n) fun c0 hc0 => Sim.opt fun c hc => Sim.pure ?_
            simp only [id_eq] at hc0
            have e1 : c.len = n + cy.len := by rw [app_len hc, sub_len hc0 (Nat.le_of_eq h.1)]
            rw [e1]
            simp only [appendD, if_pos hsz, hoc, st_rows, hrow, if_neg hv, if_pos h.1, if_pos h.2, hc0, hc, Option.map_some, pairSt, z12, z7n]
          | false =>
            simp only [Bool.false_eq_true, if_false]
            refine Sim.needs fun h => Sim.opt fun c hc => Sim.pure ?_
            simp only [appendD, if_pos hsz, hoc, st_rows, hrow, if_neg hv, if_neg h.1, if_pos h.2, hc, Option.map_some, pairSt, z2b]
      · exact Sim.fail
    | _ => exact Sim.fail
theorem zeg (id : Nat) (ei : TI) (nk : NK) (x y : D) : Sim cl lp (z72 id ei nk x y s) (appendZ id ei nk x y s.st) pairSt := by
  unfold z72
  split
  case isFalse => exact Sim.fail
  rename_i hsz
  split
  · exact Sim.needs fun h => Sim.opt fun c hc => Sim.pure (by simp only [appendZ, if_pos hsz, if_pos h, hc, Option.map_some, pairSt, z12])
  · exact Sim.fail
theorem zk7 (nk : NK) (id : Nat) (ds : List D) : Sim cl lp (z8i nk id ds s) (nestLit nk id ds s.st) pairSt := by
  unfold z8i
  split
  · split
    · exact Sim.pure (by simp only [nestLit, pairSt, z12])
    · exact Sim.fail
  · rename_i q m
    split
    · rename_i k xs hrow
      refine Sim.needs fun h => Sim.pure ?_
      simp only [nestLit, st_rows, hrow, if_pos h, pairSt, z12, drop_st]
    · exact Sim.fail
  · exact Sim.fail
theorem zka (nk : NK) (zero : List D) (id n : Nat) : Sim cl lp (z8j nk zero id n s) (z29 nk zero id n s.st) pairSt := by
  unfold z8j
  split
  · exact Sim.pure (by simp only [z29, pairSt, z12])
  · exact Sim.fail
theorem zk4 (ei : TI) (id : Nat) (x y : D) : Sim cl lp (z8h ei id x y s) (nestApp ei id x y s.st) pairSt := by
  unfold z8h
  split
  case isFalse => exact Sim.fail
  rename_i hsz
  split
  · rename_i q m
    split
    · rename_i k yss hrow
      split
      · refine Sim.needs fun h => Sim.pure ?_
        simp only [nestApp, if_pos hsz, st_rows, hrow, if_pos h, pairSt, z12, drop_st]
      · rename_i r n
        split
        · rename_i k' xss hrow2
          split
          · rename_i hc
            refine Sim.needs fun h => Sim.pure ?_
            have hcc : m = yss.length ∧ 0 < m ∧ r ≠ q ∧ k = k' ∧ n = xss.length ∧ n + m ≤ lim := ⟨h.1, h.2.1, hc.1, hc.2, h.2.2⟩
            simp only [nestApp, if_pos hsz, st_rows, hrow, hrow2, if_pos hcc, pairSt, z12, drop_st]
          · exact Sim.fail
        · exact Sim.fail
      · exact Sim.fail
    · exact Sim.fail
  · exact Sim.fail
theorem zl5 (y : D) : Sim cl lp (recSrcV s.rl y) (recSrc s.st.rows y) id := by
  unfold recSrcV
  split
  · rename_i q sz m
    split
    · rename_i wr sh ys hrow
      split
      · rename_i hs
        refine Sim.needs fun h => Sim.pure ?_
        simp only [recSrc, st_rows, hrow, if_pos (And.intro hs h)]; rfl
      · exact Sim.fail
    · exact Sim.fail
  · exact Sim.pure rfl
  · exact Sim.fail
theorem zkz (ei : TI) (id : Nat) (x y : D) : Sim cl lp (recAppV ei id x y s) (recApp ei id x y s.st) pairSt := by
  unfold recAppV
  refine Sim.bind (zl5 y) fun p hp => ?_
  obtain ⟨sh, ys⟩ := p
  simp only [_root_.id] at hp
  dsimp only
  split
  case isFalse => exact Sim.fail
  rename_i hc
  split
  · refine Sim.needs fun h => Sim.pure ?_
    simp only [recApp, hp, if_pos hc, if_pos h, pairSt, z12]
  · rename_i r sz n
    split
    · rename_i sh' xs hrow
      split
      · rename_i hs
        refine Sim.needs fun h => Sim.pure ?_
        have hcc : sh' = sh ∧ sz = sh.length ∧ n = xs.length ∧ 0 < ys.length ∧ n + ys.length ≤ lim := ⟨hs.1, hs.2, h⟩
        simp only [recApp, hp, if_pos hc, st_rows, hrow, if_pos hcc, pairSt, z12, z7n]
      · exact Sim.fail
    · exact Sim.fail
  · exact Sim.fail
theorem zl2 (sh : List FK) (zero : List D) (id n : Nat) : Sim cl lp (z8s sh zero id n s) (recMake sh zero id n s.st) pairSt := by
  unfold z8s
  split
  · rename_i p hp
    exact Sim.pure (by simp only [recMake, hp, Option.map_some, pairSt, z12])
  · exact Sim.fail
theorem zed (id : Nat) (ei : TI) (nk : NK) (x y : D) : Sim cl lp (z71 id ei nk x y s) (appendN X id ei nk x y s.st) pairSt := by
  unfold z71 appendN
  split
  · exact zk4 ei id x y
  split
  · exact zkz ei id x y
  · exact z9o id ei nk x y
def chgL (c : Chg) (s : LSt) : LSt :=
  match c with
  | .keep => s
  | .set r c => s.setRow r ⟨true, c⟩
  | _ => s
theorem zaf (x y : D) : Sim cl lp (copyV x y s) ((copyW x y s.st.rows).map fun p => (p.1, p.2.apply 0 s.st)) pairSt := by
  unfold copyV
  refine Sim.bind (zdu y) fun oc hoc => ?_
  simp only [id_eq] at hoc
  cases oc with
  | none =>
    simp only
    cases x with
    | nil k => exact Sim.pure (by simp only [copyW, hoc]; rfl)
    | rsl r off n => exact Sim.pure (by simp only [copyW, hoc]; rfl)
    | _ => exact Sim.fail
  | some cy =>
    simp only
    cases x with
    | nil k => exact Sim.pure (by simp only [copyW, hoc]; rfl)
    | rsl r off n =>
      simp only
      refine Sim.tell fun b => ?_
      cases b with
      | true =>
        simp only [if_true]
        exact Sim.needs fun h => Sim.pure (by simp only [copyW, hoc, if_pos h]; rfl)
      | false =>
        simp only [Bool.false_eq_true, if_false]
        refine Sim.needs fun h => ?_
        split
        · rename_i cx hrow
          split
          · exact Sim.fail
          · rename_i hv
            refine Sim.needs fun h2 => Sim.bind (z9f cy 0 _) fun c0 hc0 => Sim.opt fun c hc => Sim.pure ?_
            simp only [id_eq] at hc0
            have hcond : ¬ (cx.isVar = true ∨ ¬ off + n ≤ cx.len) := by simp [hv, h2]
            simp only [copyW, hoc, if_neg h, st_rows, hrow, if_neg hcond, hc0, hc, Option.map_some, pairSt, z2b, Chg.apply]
        · exact Sim.fail
    | _ => exact Sim.fail
theorem za7 (nk : NK) (zero : List D) (x : D) : Sim cl lp (clearV nk zero x s) ((clearW nk zero x s.st.rows).map fun p => (p.1, p.2.apply 0 s.st)) pairSt := by
  unfold clearV
  split
  · exact Sim.pure rfl
  · rename_i r off n
    refine Sim.tell fun b => ?_
    cases b with
    | true =>
      simp only [if_true]
      exact Sim.needs fun h => Sim.pure (by simp only [clearW, if_pos h]; rfl)
    | false =>
      simp only [Bool.false_eq_true, if_false]
      refine Sim.needs fun h => ?_
      split
      · rename_i cx hrow
        split
        · exact Sim.fail
        · rename_i hv
          refine Sim.needs fun h2 => Sim.opt fun c0 hc0 => Sim.opt fun c hc => Sim.tell fun b2 => ?_
          have hcond : ¬ (cx.isVar = true ∨ ¬ off + n ≤ cx.len) := by simp [hv, h2]
          cases b2 with
          | true =>
            simp only [if_true]
            refine Sim.needs fun h3 => Sim.opt fun c2 hc2 => Sim.pure ?_
            simp only [clearW, if_neg h, st_rows, hrow, if_neg hcond, hc0, if_pos h3, hc, hc2, Option.map_some, pairSt, z2b, Chg.apply]
          | false =>
            simp only [Bool.false_eq_true, if_false]
            refine Sim.needs fun h3 => Sim.pure ?_
            simp only [clearW, if_neg h, st_rows, hrow, if_neg hcond, hc0, if_neg h3, hc, Option.map_some, pairSt, z2b, Chg.apply]
      · exact Sim.fail
  · exact Sim.fail
theorem zkh {ids : List Nat} (h : nodupB ids = true) : ids.Nodup := by
  unfold List.Nodup
  rw [List.pairwise_iff_getElem]
  intro i j hi hj hij he
  have h1 := List.getElem?_eq_getElem hi
  have h2 := List.getElem?_eq_getElem hj
  rw [he] at h1
  have a := z3q h h1
  have b := z3q h h2
  rw [a] at b
  cases b
  omega
theorem zf3 (dst : Nat) (f : FuncId) (args : List D) : Sim cl lp (callV X dst f args s) (callD X cl dst f args s.st) pairSt := by
  have hrows : s.st.rows = rowsOf s.rl := rfl
  have hget : (fun i => lget i s.rl) = rowsOf s.rl := by funext i; exact (zd s.rl i).symm
  unfold callV
  split
  · rename_i hb
    dsimp only
    rw [hget]
    split
    · rename_i rows hr
      split
      · rename_i hc
        refine Sim.call fun r hcall => ?_
        split
        · rename_i hc2
          refine Sim.pure ?_
          have hc2' := hc2
          simp only [Bool.and_eq_true, decide_eq_true_eq, List.all_eq_true, Bool.not_eq_true'] at hc hc2'
          unfold callD
          rw [if_pos hb]
          dsimp only
          rw [hrows, hr]
          dsimp only
          have hcc : (rows.all (·.wr) && decide ((reach (rowsOf s.rl) args).length ≤ 1000) && nodupB (reach (rowsOf s.rl) args)) = true := by simp [hc.1.2, hc.2]; simpa using hc.1.1
          rw [if_pos hcc, hcall]
          dsimp only
          rw [if_pos hc2]
          rw [← z7i (gone (reach (rowsOf s.rl) args) r ++ outIds dst r.out.length) s]
          obtain ⟨res, ps, outs⟩ := r
          have hbe := zej (reach (rowsOf s.rl) args) dst res ps outs (z2i (gone (reach (rowsOf s.rl) args) ⟨res, ps, outs⟩ ++ outIds dst outs.length) s).rl (zkh hc.2) hc2'.1.1 hc2'.1.2 (fun i hi hm => by have := hc2'.2 i hi; simp at this; exact this hm)
          simp only [pairSt, LSt.st]
          rw [hbe]
        · exact Sim.fail
      · exact Sim.fail
    · exact Sim.fail
  · rename_i hb
    dsimp only
    refine Sim.bind (z3p (z6e (s := s) (reach (rowsOf s.rl) args) allRows) args) fun args' ha => Sim.call fun r hcall => ?_
    simp only [id_eq] at ha
    split
    · rename_i hc
      refine Sim.pure ?_
      have hc' := hc
      simp only [Bool.and_eq_true, decide_eq_true_eq, List.isEmpty_iff] at hc'
      unfold callD
      rw [if_neg hb]
      dsimp only
      rw [hrows] at ha ⊢
      rw [ha]
      dsimp only
      rw [hcall]
      dsimp only
      rw [if_pos hc]
      generalize hs0 : (if (reach (rowsOf s.rl) args).isEmpty || (r.res.noImm && r.out.all fun x => x.wr && x.c.noImm) then s else s.freeze (reach (rowsOf s.rl) args)) = s0
      have e0 : (if (reach (rowsOf s.rl) args).isEmpty || (r.res.noImm && r.out.all fun x => x.wr && x.c.noImm) then s.st else s.st.freeze (reach (rowsOf s.rl) args)) = s0.st := by
        rw [← hs0]
        split
        · rfl
        · exact (zav _ _).symm
      rw [e0]
      rw [← z7i (outIds dst r.out.length) s0]
      obtain ⟨res, ps, outs⟩ := r
      have hps : ps = [] := hc'.1
      subst hps
      have hbe := z9r dst res outs (z2i (outIds dst outs.length) s0).rl hc'.2
      simp only [pairSt, LSt.st]
      rw [hbe]
    · exact Sim.fail
theorem putP_st (dst : Option Tmp) (p : D × LSt) : (putP dst p).st = (pairSt p).2.setD dst (pairSt p).1 := put_st _ _ _
theorem zc4 {cl : CL'} {lp : LP'} {s : LSt} {X : Ctx} (ke el : TypeId) (m k v : D) : Sim cl lp (mapPutV X ke el m k v s) (mapPut X ke el s.st m k v) LSt.st := by
  unfold mapPutV
  split
  · rename_i kk vk r hkv
    split
    · rename_i kk' vk' es hrow
      have hr : s.st.rows r = some ⟨true, .mp kk' vk' es⟩ := by show rowsOf s.rl r = _; rw [zd]; exact hrow
      split
      · rename_i hc
        split
        · rename_i key x h1 h2
          refine Sim.pure ?_
          simp only [mapPut, hkv, hr, if_pos hc, h1, h2, z2b]
        · exact Sim.fail
      · exact Sim.fail
    · exact Sim.fail
  · exact Sim.fail
theorem zdy (o : Oper) : Sim cl lp (stepV X o s) (step X cl o s.st) LSt.st := by
  have quietCase : step X cl o s.st = (quiet X s.st o).map (fun d => s.st.setD o.dst d) → Sim cl lp (vbind (quietV X s o) fun d => vpure (s.put o.dst d)) (step X cl o s.st) LSt.st := by
    intro h
    refine Sim.bind (zcf o) fun d hd => Sim.pure ?_
    simp only [id_eq] at hd
    rw [h, hd, put_st]; rfl
  unfold stepV
  split
  · rename_i x t hop hdst
    split
    · rename_i ht
      refine Sim.pure ?_
      simp only [step, hop, hdst, if_pos ht, z75]
      rfl
    · exact Sim.fail
  · rename_i t d hop hdst
    split
    · rename_i i ht
      exact Sim.pure (by simp only [step, hop, hdst, ht, Option.map_some, put_st, za0])
    · exact Sim.fail
  · rename_i t x d hop hdst
    split
    · rename_i i ht
      split
      · rename_i hc
        exact Sim.pure (by simp only [step, hop, hdst, ht, if_pos hc, put_st, za0])
      · exact Sim.fail
    · exact Sim.fail
  · rename_i t ad x hop hdst
    split
    · rename_i i ht
      have : step X cl o s.st = storeD X s.st i (ev X s.st ad) (ev X s.st x) := by simp only [step, hop, hdst, ht]
      rw [this]; exact zp3 _ _ _
    · exact Sim.fail
  · rename_i t hint d hop hdst
    split
    · rename_i ke el _ _ _ ht
      split
      · rename_i kk vk hkv
        split
        · rename_i hh
          exact Sim.pure (by simp only [step, hop, hdst, ht, hkv, if_pos hh, put_st, z12])
        · exact Sim.fail
      · exact Sim.fail
    · exact Sim.fail
  · rename_i t m k x hop hdst
    split
    · rename_i ke el _ _ _ ht
      have : step X cl o s.st = mapPut X ke el s.st (ev X s.st m) (ev X s.st k) (ev X s.st x) := by simp only [step, hop, hdst, ht]
      rw [this]; exact zc4 _ _ _ _ _
    · exact Sim.fail
  · rename_i t m k x hop hdst
    split
    · rename_i ke el _ _ _ ht
      have : step X cl o s.st = mapPut X ke el s.st (ev X s.st m) (ev X s.st k) (ev X s.st x) := by simp only [step, hop, hdst, ht]
      rw [this]; exact zc4 _ _ _ _ _
    · exact Sim.fail
  · rename_i t n parts d hop hdst
    split
    · rename_i e ei hel
      split
      · rename_i hsz
        split
        · rename_i ds hds
          split
          · rename_i hn
            split
            · rename_i hnp
              refine Sim.bind (zk7 _ _ ds) fun p hp => Sim.pure ?_
              simp only [step, hop, hdst, hel, if_pos hsz, hds, if_pos hn, if_pos hnp, hp, Option.map_some, putP_st]
            rename_i hnp
            split
            · rename_i c0 hc0
              refine Sim.bind (z43 (X := X) _ ds c0 s) fun p hp => Sim.pure ?_
              simp only [step, hop, hdst, hel, if_pos hsz, hds, if_pos hn, if_neg hnp, hc0, hp, Option.map_some, pairSt, put_st, z12]
            · exact Sim.fail
          · exact Sim.fail
        · exact Sim.fail
      · rename_i hsz
        split
        · rename_i hag
          split
          · rename_i ds sh hds hsh
            split
            · rename_i hn
              split
              · rename_i hnp
                refine Sim.bind (z7b sh ds s) fun p hp => Sim.pure ?_
                simp only [step, hop, hdst, hel, if_neg hsz, if_pos hag, hds, hsh, if_pos hn, if_pos hnp, hp, Option.map_some, put_st, z12]
              rename_i hnp
              refine Sim.bind (z7b sh ds s) fun p hp => Sim.pure ?_
              simp only [step, hop, hdst, hel, if_neg hsz, if_pos hag, hds, hsh, if_pos hn, if_neg hnp, hp, Option.map_some, put_st]
            · exact Sim.fail
          · exact Sim.fail
        · exact Sim.fail
    · exact Sim.fail
  · rename_i t l c d hop hdst
    split
    · rename_i e ei k1 n k2 m hel hl hc
      split
      · rename_i hsz
        refine Sim.needs fun h => ?_
        have hcond : ei.size = 1 ∧ ei.bytes ≤ 64 ∧ 0 ≤ n ∧ n ≤ m ∧ m ≤ lim := ⟨hsz.1, hsz.2, h⟩
        split
        · rename_i hnp
          refine Sim.bind (zka _ _ _ _) fun p hp => Sim.pure ?_
          simp only [step, hop, hdst, hel, hl, hc, if_pos hcond, if_pos hnp, hp, Option.map_some, putP_st]
        · rename_i hnp
          refine Sim.opt fun cc hcc => Sim.pure ?_
          simp only [step, hop, hdst, hel, hl, hc, if_pos hcond, if_neg hnp, hcc, Option.map_some, put_st, z12]
      · rename_i hsz
        have hncond : ¬ (ei.size = 1 ∧ ei.bytes ≤ 64 ∧ 0 ≤ n ∧ n ≤ m ∧ m ≤ lim) := fun hh => hsz ⟨hh.1, hh.2.1⟩
        split
        · rename_i hag
          refine Sim.needs fun h => ?_
          have hcond : ei.agg = true ∧ X.nestPos o.pos = true ∧ (0 < ei.size ∧ ei.size ≤ 1000) ∧ ei.bytes ≤ 128 ∧ 0 ≤ n ∧ n ≤ m ∧ m ≤ lim := ⟨hag.1, hag.2.1, hag.2.2.1, hag.2.2.2, h⟩
          split
          · rename_i sh hsh
            split
            · rename_i hlen
              refine Sim.bind (zl2 _ _ _ _) fun p hp => Sim.pure ?_
              simp only [step, hop, hdst, hel, hl, hc, if_neg hncond, if_pos hcond, hsh, if_pos hlen, hp, Option.map_some, putP_st]
            · exact Sim.fail
          · exact Sim.fail
        · exact Sim.fail
    · exact Sim.fail
  · rename_i args argTypes d hop hdst
    split
    · rename_i x y t ty hargs hty
      split
      · rename_i e ei e' sz by_ z hel hty2
        refine Sim.bind (zed (X := X) _ ei _ _ _) fun p hp => Sim.pure ?_
        simp only [step, hop, hdst, hargs, hty, hel, hty2, hp, Option.map_some, putP_st]
      · rename_i e ei kn sz by_ z hel hty2
        refine Sim.bind (zeg _ ei _ _ _) fun p hp => Sim.pure ?_
        simp only [step, hop, hdst, hargs, hty, hel, hty2, hp, Option.map_some, putP_st]
      · exact Sim.fail
    · exact Sim.fail
  · rename_i args argTypes hop
    split
    · rename_i x y t ty hargs hty
      split
      · rename_i e ei e' sz by_ z hel hty2
        split
        · rename_i hsz
          refine Sim.bind (zaf _ _) fun p hp => Sim.pure ?_
          obtain ⟨⟨r, c⟩, h1, h2⟩ := Option.map_eq_some_iff.1 hp
          simp only [step, hop, hargs, hty, hel, hty2, if_pos hsz, h1, Option.map_some, putP_st, ← h2]
        · exact Sim.fail
      · exact Sim.fail
    · exact Sim.fail
  · rename_i args argTypes hop
    split
    · rename_i x t hargs hty
      split
      · rename_i e ei hel
        split
        · rename_i hsz
          refine Sim.bind (za7 _ _ _) fun p hp => Sim.pure ?_
          obtain ⟨⟨r, c⟩, h1, h2⟩ := Option.map_eq_some_iff.1 hp
          simp only [step, hop, hargs, hty, hel, if_pos hsz, h1, Option.map_some, putP_st, ← h2]
        · exact Sim.fail
      · exact Sim.fail
    · exact Sim.fail
  · rename_i g args argTypes d hop hdst
    split
    · rename_i f cap hg
      split
      · exact Sim.fail
      · rename_i hft
        refine Sim.bind (zf3 (X := X) d f _) fun p hp => Sim.pure ?_
        simp only [step, hop, hdst, hg, if_neg hft, hp, Option.map_some, putP_st]
    · exact Sim.fail
  · rename_i h1 h2 h3 h4 h5 h6 m1 m2 m3 h7 h8 h9 h10
    refine quietCase ?_
    unfold step
    split <;> first | rfl | (exfalso; simp_all; done) | skip
    all_goals first | exact (h1 _ _ (by assumption)).elim | exact (h2 _ _ (by assumption)).elim | exact (h3 _ _ (by assumption) (by assumption)).elim | exact (h4 _ _ (by assumption) (by assumption)).elim | exact (h5 _ _ _ (by assumption) (by assumption)).elim | exact (h6 _ _ _ (by assumption) (by assumption)).elim | exact (h7 _ _ _ _ (by assumption) (by assumption)).elim | exact (h8 _ _ _ _ (by assumption) (by assumption)).elim | exact (h9 _ _ _ (by assumption) (by assumption)).elim | exact (h10 _ _ _ _ (by assumption) (by assumption)).elim | exact (m1 _ _ _ (by assumption) (by assumption)).elim | exact (m2 _ _ _ _ (by assumption) (by assumption)).elim | exact (m3 _ _ _ _ (by assumption) (by assumption)).elim
end
end Go.PR

end
