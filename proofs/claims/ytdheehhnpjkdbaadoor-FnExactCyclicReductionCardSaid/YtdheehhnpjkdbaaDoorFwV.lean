/- The evaluator once more, for values that are not known: what it would have to test is noted down (obs), calls and loops answer from a list, branches are told (ds). Rows are a list. -/
import Derived.Test.YtdheehhnpjkdbaaDoorFwQ
set_option linter.unusedVariables false
set_option linter.unusedSimpArgs false
namespace Go.PR
open Go

structure LSt where
  env : List D
  rl : List (Nat × Row)

def LSt.st (s : LSt) : St := ⟨s.env, rowsOf s.rl⟩

inductive OutL where
  | normal (s : LSt) | exit (id : Nat) (s : LSt) | ret (s : LSt)

def OutL.out : OutL → Out
  | .normal s => .normal s.st
  | .exit i s => .exit i s.st
  | .ret s => .ret s.st

structure Known where
  f : FuncId
  args : List D
  prows : List Row
  ret : Ret

structure LoopAt where
  bid : Nat
  body : Code
  s : LSt
  out : OutL

/-- What is told. -/
structure VS where
  ds : List Bool
  rs : List Ret
  lo : List OutL

/-- What is noted. -/
structure VL where
  obs : List Prop
  calls : List Known
  loops : List LoopAt

def VL.app (a b : VL) : VL := ⟨a.obs ++ b.obs, a.calls ++ b.calls, a.loops ++ b.loops⟩

/-- Where the word stops: what is wanted next (for the generator alone). -/
inductive Why where
  | fail
  | op (o : Oper)
  | tell (k : Nat) (p : Prop)
  | call (f : FuncId) (args : List D) (prows : List Row)
  | loop (bid : Nat) (body : Code) (s : LSt)

inductive VR (α : Type) where
  | ok (x : α) (s : VS) (l : VL)
  | stop (w : Why) (l : VL)

def V (α : Type) := VS → VR α

def vpure {α : Type} (x : α) : V α := fun s => .ok x s ⟨[], [], []⟩
def vbind {α β : Type} (f : V α) (g : α → V β) : V β := fun s => match f s with
  | .ok x s' l => match g x s' with
    | .ok y s'' l' => .ok y s'' (l.app l')
    | .stop w l' => .stop w (l.app l')
  | .stop w l => .stop w l
def vfail {α : Type} : V α := fun _ => .stop .fail ⟨[], [], []⟩
/-- A failure gets its place. -/
def vat {α : Type} (o : Oper) (f : V α) : V α := fun s => match f s with
  | .ok x s' l => .ok x s' l
  | .stop .fail l => .stop (.op o) l
  | .stop w l => .stop w l
def need (p : Prop) : V Unit := fun s => .ok () s ⟨[p], [], []⟩
def vtell (k : Nat) (p : Prop) : V Bool := fun s => match s.ds with
  | b :: ds => .ok b { s with ds := ds } ⟨[], [], []⟩
  | [] => .stop (.tell k p) ⟨[], [], []⟩
def ofO {α : Type} : Option α → V α
  | some x => vpure x
  | none => vfail
def vcall (f : FuncId) (args : List D) (prows : List Row) : V Ret := fun s => match s.rs with
  | r :: rs => .ok r { s with rs := rs } ⟨[], [⟨f, args, prows, r⟩], []⟩
  | [] => .stop (.call f args prows) ⟨[], [], []⟩
def vloop (bid : Nat) (body : Code) (st : LSt) : V OutL := fun s => match s.lo with
  | o :: lo => .ok o { s with lo := lo } ⟨[], [], [⟨bid, body, st, o⟩]⟩
  | [] => .stop (.loop bid body st) ⟨[], [], []⟩

/-! ### what is right of it -/
def AllP : List Prop → Prop
  | [] => True
  | [p] => p
  | p :: ps => p ∧ AllP ps

abbrev CL' := FuncId → List D → List Row → Option Ret
abbrev LP' := Nat → Code → St → Option Out

structure Good (cl : CL') (lp : LP') (s : VL) : Prop where
  obs : ∀ p ∈ s.obs, p
  calls : ∀ c ∈ s.calls, cl c.f c.args c.prows = some c.ret
  loops : ∀ l ∈ s.loops, lp l.bid l.body l.s.st = some l.out.out

/-- The V-function's word is the evaluator's. -/
def Sim {α β : Type} (cl : CL') (lp : LP') (f : V α) (f0 : Option β) (R : α → β) : Prop := ∀ s x s' l, f s = .ok x s' l → Good cl lp l → f0 = some (R x)

section
variable {cl : CL'} {lp : LP'} {α β γ δ : Type}

theorem AllP_iff : ∀ {l : List Prop}, AllP l ↔ ∀ p ∈ l, p
  | [] => by simp [AllP]
  | [p] => by simp only [AllP, List.mem_singleton]; exact ⟨fun h q e => e ▸ h, fun h => h p rfl⟩
  | p :: q :: l => by
    simp only [AllP]
    rw [AllP_iff (l := q :: l), List.forall_mem_cons (a := p)]

theorem Good.left {a b : VL} (h : Good cl lp (a.app b)) : Good cl lp a := ⟨fun p hp => h.obs p (List.mem_append_left _ hp), fun c hc => h.calls c (List.mem_append_left _ hc), fun c hc => h.loops c (List.mem_append_left _ hc)⟩
theorem Good.right {a b : VL} (h : Good cl lp (a.app b)) : Good cl lp b := ⟨fun p hp => h.obs p (List.mem_append_right _ hp), fun c hc => h.calls c (List.mem_append_right _ hc), fun c hc => h.loops c (List.mem_append_right _ hc)⟩

theorem Sim.pure {x : α} {R : α → β} {f0 : Option β} (h : f0 = some (R x)) : Sim cl lp (vpure x) f0 R := by
  intro s y s' l h1 hg
  simp only [vpure] at h1
  cases h1
  exact h

theorem Sim.fail {R : α → β} {f0 : Option β} : Sim cl lp vfail f0 R := by
  intro s y s' l h1 hg
  cases h1

theorem Sim.bind {f : V α} {g : α → V γ} {f0 : Option β} {h0 : Option δ} {R : α → β} {R' : γ → δ} (h1 : Sim cl lp f f0 R) (h2 : ∀ x, f0 = some (R x) → Sim cl lp (g x) h0 R') : Sim cl lp (vbind f g) h0 R' := by
  intro s y s' l hs hg
  unfold vbind at hs
  cases e : f s with
  | stop w l1 => rw [e] at hs; cases hs
  | ok x s1 l1 =>
    rw [e] at hs
    simp only at hs
    cases e2 : g x s1 with
    | stop w l2 => rw [e2] at hs; cases hs
    | ok y' s2 l2 =>
      rw [e2] at hs
      cases hs
      exact h2 x (h1 s x s1 l1 e hg.left) s1 _ _ _ e2 hg.right

theorem Sim.needs {p : Prop} {g : Unit → V γ} {h0 : Option δ} {R' : γ → δ} (h : p → Sim cl lp (g ()) h0 R') : Sim cl lp (vbind (need p) g) h0 R' := by
  intro s y s' l hs hg
  unfold vbind need at hs
  simp only at hs
  cases e2 : g () s with
  | stop w l2 => rw [e2] at hs; cases hs
  | ok y' s2 l2 =>
    rw [e2] at hs
    cases hs
    exact h (hg.left.obs p (by simp)) s _ _ _ e2 hg.right

theorem Sim.tell {k : Nat} {p : Prop} {g : Bool → V γ} {h0 : Option δ} {R' : γ → δ} (h : ∀ b, Sim cl lp (g b) h0 R') : Sim cl lp (vbind (vtell k p) g) h0 R' := by
  intro s y s' l hs hg
  have key : ∀ (b : Bool) (s1 : VS), vtell k p s = .ok b s1 ⟨[], [], []⟩ → h0 = some (R' y) := by
    intro b s1 e
    unfold vbind at hs
    rw [e] at hs
    simp only at hs
    cases e2 : g b s1 with
    | stop w l2 => rw [e2] at hs; cases hs
    | ok y' s2 l2 =>
      rw [e2] at hs
      cases hs
      exact h b _ _ _ _ e2 hg.right
  cases hd : s.ds with
  | nil => unfold vbind vtell at hs; rw [hd] at hs; cases hs
  | cons b ds => exact key b { s with ds := ds } (by simp only [vtell, hd])

theorem Sim.at {o : Oper} {f : V α} {f0 : Option β} {R : α → β} (h : Sim cl lp f f0 R) : Sim cl lp (vat o f) f0 R := by
  intro s y s' l hs hg
  unfold vat at hs
  cases e : f s with
  | ok x s1 l1 => rw [e] at hs; cases hs; exact h s _ _ _ e hg
  | stop w l1 => rw [e] at hs; cases w <;> cases hs

theorem Sim.opt {f0 : Option α} {g : α → V γ} {h0 : Option δ} {R' : γ → δ} (h : ∀ x, f0 = some x → Sim cl lp (g x) h0 R') : Sim cl lp (vbind (ofO f0) g) h0 R' := by
  cases f0 with
  | none => intro s y s' l hs hg; unfold vbind ofO vfail at hs; cases hs
  | some x => exact Sim.bind (R := id) (f0 := some x) (Sim.pure rfl) fun y hy => h y (by simpa using hy)

theorem Sim.opt' {f0 : Option α} {h0 : Option δ} {R' : α → δ} (h : ∀ x, f0 = some x → h0 = some (R' x)) : Sim cl lp (ofO f0) h0 R' := by
  cases f0 with
  | none => intro s y s' l hs hg; unfold ofO vfail at hs; cases hs
  | some x => exact Sim.pure (h x rfl)

theorem Sim.call {f : FuncId} {args : List D} {prows : List Row} {g : Ret → V γ} {h0 : Option δ} {R' : γ → δ} (h : ∀ r, cl f args prows = some r → Sim cl lp (g r) h0 R') : Sim cl lp (vbind (vcall f args prows) g) h0 R' := by
  intro s y s' l hs hg
  unfold vbind vcall at hs
  cases hd : s.rs with
  | nil => rw [hd] at hs; cases hs
  | cons b ds =>
    rw [hd] at hs
    simp only at hs
    cases e2 : g b { s with rs := ds } with
    | stop w l2 => rw [e2] at hs; cases hs
    | ok y' s2 l2 =>
      rw [e2] at hs
      cases hs
      exact h b (hg.left.calls ⟨f, args, prows, b⟩ (by simp)) _ _ _ _ e2 hg.right

theorem Sim.loop {bid : Nat} {body : Code} {st : LSt} {g : OutL → V γ} {h0 : Option δ} {R' : γ → δ} (h : ∀ o : OutL, lp bid body st.st = some o.out → Sim cl lp (g o) h0 R') : Sim cl lp (vbind (vloop bid body st) g) h0 R' := by
  intro s y s' l hs hg
  unfold vbind vloop at hs
  cases hd : s.lo with
  | nil => rw [hd] at hs; cases hs
  | cons b ds =>
    rw [hd] at hs
    simp only at hs
    cases e2 : g b { s with lo := ds } with
    | stop w l2 => rw [e2] at hs; cases hs
    | ok y' s2 l2 =>
      rw [e2] at hs
      cases hs
      exact h b (hg.left.loops ⟨bid, body, st, b⟩ (by simp)) _ _ _ _ e2 hg.right

end
end Go.PR
