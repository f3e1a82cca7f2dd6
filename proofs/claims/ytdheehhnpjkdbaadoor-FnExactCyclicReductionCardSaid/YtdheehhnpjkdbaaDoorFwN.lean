/- Regions that draw their order: every order comes to what the text's order comes to. -/
import Derived.Test.YtdheehhnpjkdbaaDoorFwM
set_option linter.unusedVariables false
set_option linter.unusedSimpArgs false
namespace Go.PR
open Go

/-! ### numbers that nothing bears yet -/
section
variable {P : Program} {X : Ctx} {G : Nat → Option D} {F : Nat → Prop} {w0 w w' : World} {M0 : Entry} {M : Nat → Prop} {mu mu' : Nat → Option Loc} {tmps : Array Value} {a : Act} {st : St}

mutual
theorem Rep.unborn {id : Nat} (hid : mu id = none) : ∀ (d : D) {v : Value}, Rep w M mu d v → d.ren (killF id) = d
  | .any, _, _ => by simp only [D.ren]
  | .und, _, h => by simp only [D.ren]
  | .nil _, _, h => by simp only [D.ren]
  | .bool _, _, h => by simp only [D.ren]
  | .int _ _, _, h => by simp only [D.ren]
  | .str _, _, h => by simp only [D.ren]
  | .fn g cap, _, h => by
    simp only [Rep] at h
    obtain ⟨cv, e, h⟩ := h
    simp only [D.ren, RepL.unborn hid cap h]
  | .immI k xs, _, h => by simp only [D.ren]
  | .immB xs, _, h => by simp only [D.ren]
  | .imm2 k xss, _, h => by simp only [D.ren]
  | .immG els, _, h => by simp only [D.ren]
  | .pim cells, _, h => by simp only [D.ren]
  | .ptr r off, _, h => by
    simp only [Rep] at h
    obtain ⟨l, e, h⟩ := h
    have : r ≠ id := fun e' => by rw [e', hid] at e; cases e
    simp only [D.ren, killF, if_neg this]
  | .pel r off, _, h => by
    simp only [Rep] at h
    obtain ⟨l, e, h⟩ := h
    have : r ≠ id := fun e' => by rw [e', hid] at e; cases e
    simp only [D.ren, killF, if_neg this]
  | .rsl r off n, _, h => by
    simp only [Rep] at h
    obtain ⟨l, e, h⟩ := h
    have : r ≠ id := fun e' => by rw [e', hid] at e; cases e
    simp only [D.ren, killF, if_neg this]
  | .agg cells, _, h => by
    simp only [Rep] at h
    obtain ⟨cv, e, h⟩ := h
    simp only [D.ren, RepL.unborn hid cells h]
  | .tup vs, _, h => by
    simp only [Rep] at h
    obtain ⟨cv, e, h⟩ := h
    simp only [D.ren, RepL.unborn hid vs h]
theorem RepL.unborn {id : Nat} (hid : mu id = none) : ∀ (ds : List D) {vs : List Value}, RepL w M mu ds vs → D.renL (killF id) ds = ds
  | [], [], _ => by simp only [D.renL]
  | [], _ :: _, h => by simp only [RepL] at h
  | _ :: _, [], h => by simp only [RepL] at h
  | d :: ds, v :: vs, h => by
    simp only [RepL] at h
    simp only [D.renL, Rep.unborn hid d h.1, RepL.unborn hid ds h.2]
end

theorem SR.noRow (h : SR G F w0 M0 w M mu tmps st) {id : Nat} (hid : mu id = none) : st.rows id = none := by
  cases e : st.rows id with
  | none => rfl
  | some row =>
    obtain ⟨l, hl, _⟩ := h.rows id row e
    rw [hid] at hl; cases hl

theorem SR.drop_unborn (h : SR G F w0 M0 w M mu tmps st) {id : Nat} (hid : mu id = none) : st.drop id = st := by
  have hrow : ∀ i row, st.rows i = some row → row.ren (killF id) = row := by
    intro i row hr
    obtain ⟨l, hl, hh⟩ := h.rows i row hr
    have key : ∀ cv, ContRep w M mu row.c cv → row.c.ren (killF id) = row.c := by
      intro cv hc
      cases e : row.c with
      | var cells => rw [e] at hc; simp only [Cont.ren, RepL.unborn hid cells hc.1]
      | _ => rfl
    have hc : row.c.ren (killF id) = row.c := by
      cases l with
      | nowhere => exact key _ hh
      | at_ b base size => obtain ⟨cs, T, cv, _, _, h3, _⟩ := hh; exact key _ h3
    unfold Row.ren
    rw [hc]
  cases st with
  | mk env rows =>
    unfold St.drop
    congr 1
    · exact RepL.unborn hid env h.env
    · funext i
      simp only
      split
      · rename_i e; subst e; exact (h.noRow hid).symm
      · cases e : rows i with
        | none => rfl
        | some row => simp only [Option.map_some, hrow i row e]

theorem SR.dropAll_unborn (h : SR G F w0 M0 w M mu tmps st) : ∀ (is : List Nat), (∀ i ∈ is, mu i = none) → dropAll is st = st := by
  intro is
  induction is with
  | nil => intro _; rfl
  | cons i is ih =>
    intro hi
    simp only [dropAll]
    rw [h.drop_unborn (hi i (by simp))]
    exact ih fun j hj => hi j (by simp [hj])

theorem SR.dropP (h : SR G F w0 M0 w M mu tmps st) (p : Nat → Bool) (hp : ∀ i, Pinned i → p i = false) : SR G F w0 M0 w M (fun r => if p r then none else mu r) tmps (st.dropP p) := by
  have hren : ∀ r i, killP p r = some i → (if p i then none else mu i) = mu r := fun r i e => by
    simp only [killP] at e
    split at e
    · cases e
    · rename_i hne; cases e; simp [hne]
  have rowOf : ∀ i ri, (st.dropP p).rows i = some ri → ∃ r0, st.rows i = some r0 ∧ ri = r0.ren (killP p) ∧ p i = false := by
    intro i ri hi
    simp only [St.dropP] at hi
    split at hi
    · cases hi
    · rename_i hne
      obtain ⟨r0, e0, rfl⟩ := Option.map_eq_some_iff.1 hi
      exact ⟨r0, e0, rfl, by simpa using hne⟩
  exact
  { h with
    env := RepL.ren hren _ h.env
    rows := fun i ri hi => by
      obtain ⟨r0, e0, rfl, hne⟩ := rowOf i ri hi
      exact (h.rows i r0 e0).ren hren (by simp [hne])
    apart := fun i j ri rj b hij hi hj mi mj bi bj => by
      obtain ⟨r0, e0, rfl, hne⟩ := rowOf i ri hi
      obtain ⟨r1, e1, rfl, hne1⟩ := rowOf j rj hj
      exact h.apart i j r0 r1 b hij e0 e1 mi mj (by simpa [hne] using bi) (by simpa [hne1] using bj)
    pin := fun i hi => by rw [← h.pin i hi, hp i hi]; simp }

theorem keepEnv_rep' (ts : List Nat) (i : Nat) {ds : List D} {vs : List Value} (h : RepL w M mu ds vs) : RepL w M mu (keepEnv ts i ds) vs := keepEnv_rep ts i h

/-- Only some temporaries, only some rows. -/
theorem SR.look (h : SR G F w0 M0 w M mu tmps st) (L : List Nat) {rows : Nat → Option Row} (hr : ∀ i row, rows i = some row → st.rows i = some row) : SR G F w0 M0 w M mu tmps ⟨keepEnv L 0 st.env, rows⟩ :=
  { h with
    env := keepEnv_rep _ 0 h.env
    rows := fun i r hi => h.rows i r (hr i r hi)
    apart := fun i j ri rj b hij hi hj => h.apart i j ri rj b hij (hr i ri hi) (hr j rj hj) }

theorem mask_sub {p : Nat → Bool} {rows : Nat → Option Row} {i : Nat} {row : Row} (h : mask p rows i = some row) : rows i = some row := by
  unfold mask at h
  split at h
  · cases h
  · exact h

theorem none_sub {rows : Nat → Option Row} (i : Nat) (row : Row) (h : (fun _ => none : Nat → Option Row) i = some row) : rows i = some row := by cases h

theorem quietA_sound (hX : XOK P X) (h : SR X.glob F w0 M0 w M mu a.tmps st) {o : Oper} {d : D} (hq : quietA X st o = some d) : ∃ v, (execOp a.eval o).run P w = .ok (.value v) w ∧ Rep w M mu d v := by
  unfold quietA at hq
  split at hq
  · rename_i x hop
    cases hq
    exact ⟨a.eval x, by simp [execOp, hop], ev_rep h x⟩
  · exact quiet_sound hX h hq

theorem nset_nid {d : Nat} (hd : d < 10000) : nset (some d) (nid d) = true := by
  unfold nset nid
  rw [Nat.mod_eq_of_lt hd]
  simp
  omega

theorem nset_xid {d j : Nat} (hd : d < 10000) : nset (some d) (xid d j) = true := by
  unfold nset xid
  rw [Nat.mod_eq_of_lt hd]
  have : j % 40 < 40 := Nat.mod_lt _ (by decide)
  simp
  omega

theorem nset_disj {d e : Option Tmp} {r : Nat} (hd : nset d r = true) (he : nset e r = true) : d = e ∧ ∃ t, d = some t := by
  cases d with
  | none => simp [nset] at hd
  | some d => cases e with
    | none => simp [nset] at he
    | some e =>
      simp [nset] at hd he
      exact ⟨by rw [← hd.2, ← he.2], d, rfl⟩

theorem nset_pin {d : Option Tmp} {r : Nat} (h : nset d r = true) : ¬ Pinned r := by
  cases d with
  | none => simp [nset] at h
  | some d => intro hp; simp only [nset, Bool.and_eq_true, decide_eq_true_eq] at h; exact absurd h.1.2 (Nat.not_lt.2 hp.1)

end
end Go.PR
