/- Regions in the order of the text, code and functions: the evaluator's word holds of the model. -/
import Derived.Test.YtdheehhnpjkdbaaDoorFwL
set_option linter.unusedVariables false
set_option linter.unusedSimpArgs false
namespace Go.PR
open Go

section
variable {P : Program} {X : Ctx} {F : Nat → Prop} {w0 w w' : World} {M0 : Entry} {M : Nat → Prop} {mu : Nat → Option Loc} {a : Act} {st : St}

theorem not_bool {d : D} {v : Value} (h : Rep w M mu d v) (hd : (match d with | .any | .bool _ => false | _ => true) = true) (b : Bool) : v ≠ .bool b := by
  intro e
  subst e
  cases d <;> simp at hd <;> simp only [Rep] at h
  case und => cases h
  case nil => obtain ⟨A, h⟩ := h; cases h
  case int => cases h
  case str => cases h
  case fn => obtain ⟨cv, h, _⟩ := h; cases h
  case immI => obtain ⟨A, c, h, _⟩ := h; cases h
  case immB => obtain ⟨A, c, h, _⟩ := h; cases h
  case imm2 => obtain ⟨cv, _, A, c, h, _⟩ := h; cases h
  case immG => obtain ⟨cv, _, _, A, c, h, _⟩ := h; cases h
  case pim => obtain ⟨ad, cv, h, _⟩ := h; cases h
  case ptr => obtain ⟨l, _, h⟩ := h; cases l <;> simp [Loc.cell] at h
  case pel => obtain ⟨l, _, h⟩ := h; cases l <;> simp [Loc.cell] at h
  case rsl => obtain ⟨l, _, h⟩ := h; cases l <;> simp [Loc.slice] at h
  case agg => obtain ⟨cv, h, _⟩ := h; cases h
  case tup => obtain ⟨cv, h, _⟩ := h; cases h

theorem wanted_sound (h : SR X.glob F w0 M0 w M mu a.tmps st) (ops : Array Oper) (o : Oper) : (wanted ops st o = .yes → Region.wanted o (yielded ops a.tmps) = true) ∧ (wanted ops st o = .no → Region.wanted o (yielded ops a.tmps) = false) := by
  unfold Go.PR.wanted Region.wanted
  cases hg : o.guard with
  | none => simp
  | some g =>
    obtain ⟨j, want⟩ := g
    simp only
    unfold yielded
    cases hd : (ops[j]?).bind (·.dst) with
    | none => simp
    | some t =>
      simp only [Option.bind_some]
      have hr := h.get t
      cases hv : a.tmps[t]? with
      | none =>
        have : a.tmps.getD t undef = undef := by simp [Array.getD_eq_getD_getElem?, hv]
        rw [this] at hr
        split
        · rename_i b e; rw [e] at hr; simp only [Rep] at hr; cases hr
        · simp
        · simp
      | some v =>
        have e : a.tmps.getD t undef = v := by simp [Array.getD_eq_getD_getElem?, hv]
        rw [e] at hr
        split
        · rename_i b e
          rw [e] at hr
          simp only [Rep] at hr
          subst hr
          by_cases hb : b = want <;> simp [hb]
        · simp
        · rename_i h1 h2
          have := not_bool hr (by split <;> simp_all)
          simp
          cases v <;> simp at this ⊢

theorem und_put (h : SR X.glob F w0 M0 w M mu a.tmps st) (dst : Option Tmp) : SR X.glob F w0 M0 w M mu (a.put dst undef).tmps (st.setD dst .und) := h.setDst (by simp only [Rep]) dst

theorem After.intro' {df : List Deferred} (hd : a.defers = df) (h : SR X.glob F w0 M0 w M mu a.tmps st) : After X F w0 M0 df st a w := ⟨hd, M, mu, h⟩

theorem stepG_sound (hX : XOK P X) {cl : FuncId → List D → List Row → Option Ret} (hcl : ∀ f args prows r, cl f args prows = some r → Sound P X f args prows r) {df : List Deferred} (h : After X F w0 M0 df st a w) {ops : Array Oper} {i : Nat} {o : Oper} (ho : ops[i]? = some o) {st' : St} (hs : stepG X cl ops o st = some st') {Q : Exit → Act → World → Prop}
    {K : Act → World → Prop} (hK : ∀ a w, After X F w0 M0 df st' a w → K a w) : wpOp P ops Q i K a w := by
  obtain ⟨rfl, M, mu, h⟩ := h
  have hw := wanted_sound h ops o
  unfold wpOp
  rw [ho]
  unfold stepG at hs
  split at hs
  · rename_i e
    simp only [hw.1 e, if_true]
    exact .inl (Oper.wp_mono hK (step_sound hX hcl h hs))
  · rename_i e
    cases hs
    simp only [hw.2 e, Bool.false_eq_true, if_false]
    exact hK _ _ ⟨put_defers _ _ _, M, mu, und_put h _⟩
  · cases hs

theorem stepsG_sound (hX : XOK P X) {cl : FuncId → List D → List Row → Option Ret} (hcl : ∀ f args prows r, cl f args prows = some r → Sound P X f args prows r) {df : List Deferred} {ops : Array Oper} {Q : Exit → Act → World → Prop} {st' : St} (hQ : ∀ a w, After X F w0 M0 df st' a w → Q .normal a w) :
    ∀ (l : List Oper) (k : Nat) {st : St} {a : Act} {w : World}, (∀ j, l[j]? = ops[k + j]?) → After X F w0 M0 df st a w → stepsG X cl ops l st = some st' → wpOps P ops Q (List.range' k l.length) a w
  | [], k, st, a, w, _, h, hs => by simp only [stepsG] at hs; cases hs; exact hQ a w h
  | o :: l, k, st, a, w, hl, h, hs => by
    have h0 : ops[k]? = some o := by simpa using (hl 0).symm
    simp only [stepsG] at hs
    split at hs
    case h_2 => cases hs
    rename_i s hs1
    simp only [List.length_cons, List.range'_succ]
    rw [wpOps_cons]
    exact stepG_sound hX hcl h h0 hs1 fun a w ha => stepsG_sound hX hcl hQ l (k + 1) (fun j => by have := hl (j + 1); simpa [Nat.add_assoc, Nat.add_comm 1 j] using this) ha hs

theorem region_sound (hX : XOK P X) {cl : FuncId → List D → List Row → Option Ret} (hcl : ∀ f args prows r, cl f args prows = some r → Sound P X f args prows r) {df : List Deferred} {id : Nat} {ops : Array Oper} {Q : Exit → Act → World → Prop} {st' : St} (h : After X F w0 M0 df st a w) (hs : stepsG X cl ops ops.toList st = some st') (hQ : ∀ a w, After X F w0 M0 df st' a w → Q .normal a w) :
    (Code.region id ops false).wp P Q a w := by
  refine wp_region ?_
  have := stepsG_sound hX hcl hQ ops.toList 0 (fun j => by simp) h hs
  rwa [Array.length_toList, ← List.range_eq_range'] at this

theorem rowsOf_pick {rows : Nat → Option Row} : ∀ (is : List Nat) (i : Nat) (r : Row), rowsOf (pickRows rows is) i = some r → rows i = some r
  | [], i, r, h => by simp [pickRows, rowsOf] at h
  | j :: is, i, r, h => by
    simp only [pickRows] at h
    split at h
    · rename_i r0 e0
      simp only [rowsOf] at h
      split at h
      · rename_i e; cases h; rw [e]; exact e0
      · exact rowsOf_pick is i r h
    · exact rowsOf_pick is i r h

theorem keepEnv_rep (ts : List Nat) : ∀ (i : Nat) {ds : List D} {vs : List Value}, RepL w M mu ds vs → RepL w M mu (keepEnv ts i ds) vs
  | i, [], [], _ => by simp only [keepEnv, RepL]
  | i, [], _ :: _, h => by simp only [RepL] at h
  | i, _ :: _, [], h => by simp only [RepL] at h
  | i, d :: ds, v :: vs, h => by
    simp only [keepEnv, RepL] at h ⊢
    refine ⟨?_, keepEnv_rep ts (i + 1) h.2⟩
    split
    · exact h.1
    · simp only [Rep]

theorem SR.keep (h : SR X.glob F w0 M0 w M mu a.tmps st) (hint : Option Hint) : SR X.glob F w0 M0 w M mu a.tmps (st.keep hint) := by
  cases hint with
  | none => exact h
  | some hi =>
    exact { h with
      env := keepEnv_rep _ 0 h.env
      rows := fun i r hr => h.rows i r (rowsOf_pick _ i r hr)
      apart := fun i j ri rj b hij hi hj => h.apart i j ri rj b hij (rowsOf_pick _ i ri hi) (rowsOf_pick _ j rj hj) }

theorem SR.keepOut (h : SR X.glob F w0 M0 w M mu a.tmps st) (hint : Option Hint) : SR X.glob F w0 M0 w M mu a.tmps (st.keepOut hint) := by
  cases hint with
  | none => exact h
  | some hi =>
    exact { h with
      env := keepEnv_rep _ 0 h.env
      rows := fun i r hr => h.rows i r (rowsOf_pick _ i r hr)
      apart := fun i j ri rj b hij hi hj => h.apart i j ri rj b hij (rowsOf_pick _ i ri hi) (rowsOf_pick _ j rj hj) }

/-- What the evaluator's outcome says of the model's. -/
def OutOK (X : Ctx) (F : Nat → Prop) (w0 : World) (M0 : Entry) (df : List Deferred) : Out → Exit → Act → World → Prop
  | .normal st, .normal, a, w => After X F w0 M0 df st a w
  | .exit i st, .exit j, a, w => i = j ∧ After X F w0 M0 df st a w
  | .ret st, .ret, a, w => After X F w0 M0 df st a w
  | _, _, _, _ => False

theorem OutOK.keep {df : List Deferred} {o : Out} {ex : Exit} {w : World} (hint : Option Hint) (h : OutOK X F w0 M0 df o ex a w) : OutOK X F w0 M0 df (o.keep hint) ex a w := by
  cases o <;> cases ex <;> simp only [OutOK] at h <;> simp only [Out.keep, OutOK]
  · obtain ⟨hd, M, mu, hs⟩ := h; exact ⟨hd, M, mu, hs.keepOut hint⟩
  · obtain ⟨rfl, hd, M, mu, hs⟩ := h; exact ⟨rfl, hd, M, mu, hs.keepOut hint⟩
  · obtain ⟨hd, M, mu, hs⟩ := h; exact ⟨hd, M, mu, hs.keepOut hint⟩

end
end Go.PR
