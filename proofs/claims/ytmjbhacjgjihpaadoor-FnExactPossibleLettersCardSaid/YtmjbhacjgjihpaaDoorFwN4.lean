/- Regions that draw their order: every order comes to what the text's order comes to. -/
import Derived.Test.YtmjbhacjgjihpaaDoorFwM
set_option linter.unusedVariables false
set_option linter.unusedSimpArgs false
set_option linter.unusedSectionVars false
section
namespace Go.PR
open Go
section
variable {P : Program} {X : Ctx} {G : Nat → Option D} {F : Nat → Prop} {w0 w w' : World} {M0 : Entry} {M : Nat → Prop} {mu mu' : Nat → Option Loc} {tmps : Array Value} {a : Act} {st : St}
mutual
theorem Rep.unborn {id : Nat} (hid : mu id = none) : ∀ (d : D) {v : Value}, Rep w M mu d v → d.ren (killF id) = d
  | .any, _, _ => by simp only [D.ren]
  | .und, _, h => by simp only [D.ren]
  | .nil _, _, h => by simp only [D.ren]
  | .bool _, _, h => by simp only [D.ren]
  | .int _ _, _, h => by simp only [D.ren]
  | .str _, _, h => by simp only [D.ren]
  | .fn g cap, _, h => by
    simp only [Rep] at h
    obtain ⟨cv, e, h⟩ := h
    simp only [D.ren, RepL.unborn hid cap h]
  | .immI k xs, _, h => by simp only [D.ren]
  | .immB xs, _, h => by simp only [D.ren]
  | .imm2 k xss, _, h => by simp only [D.ren]
  | .immG els, _, h => by simp only [D.ren]
  | .immR sh ps, _, h => by simp only [D.ren]
  | .pim cells, _, h => by simp only [D.ren]
  | .ptr r off, _, h => by
    simp only [Rep] at h
    obtain ⟨l, e, h⟩ := h
    have : r ≠ id := fun e' => by rw [e', hid] at e; cases e
    simp only [D.ren, killF, if_neg this]
  | .pel r off, _, h => by
    simp only [Rep] at h
    obtain ⟨l, e, h⟩ := h
    have : r ≠ id := fun e' => by rw [e', hid] at e; cases e
    simp only [D.ren, killF, if_neg this]
  | .mpr r, _, h => by
    simp only [Rep] at h
    obtain ⟨l, e, h⟩ := h
    have : r ≠ id := fun e' => by rw [e', hid] at e; cases e
    simp only [D.ren, killF, if_neg this]
  | .nsl r _, _, h => by
    simp only [Rep] at h
    obtain ⟨l, e, h⟩ := h
    have : r ≠ id := fun e' => by rw [e', hid] at e; cases e
    simp only [D.ren, killF, if_neg this]
  | .nel r _ _, _, h => by
    simp only [Rep] at h
    obtain ⟨l, e, h⟩ := h
    have : r ≠ id := fun e' => by rw [e', hid] at e; cases e
    simp only [D.ren, killF, if_neg this]
  | .npe r _, _, h => by
    simp only [Rep] at h
    obtain ⟨l, e, h⟩ := h
    have : r ≠ id := fun e' => by rw [e', hid] at e; cases e
    simp only [D.ren, killF, if_neg this]
  | .nep r _ _, _, h => by
    simp only [Rep] at h
    obtain ⟨l, e, h⟩ := h
    have : r ≠ id := fun e' => by rw [e', hid] at e; cases e
    simp only [D.ren, killF, if_neg this]
  | .rcs r _ _, _, h => by
    simp only [Rep] at h
    obtain ⟨l, e, h⟩ := h
    have : r ≠ id := fun e' => by rw [e', hid] at e; cases e
    simp only [D.ren, killF, if_neg this]
  | .rpe r _ _ _, _, h => by
    simp only [Rep] at h
    obtain ⟨l, e, h⟩ := h
    have : r ≠ id := fun e' => by rw [e', hid] at e; cases e
    simp only [D.ren, killF, if_neg this]
  | .rsl r off n, _, h => by
    simp only [Rep] at h
    obtain ⟨l, e, h⟩ := h
    have : r ≠ id := fun e' => by rw [e', hid] at e; cases e
    simp only [D.ren, killF, if_neg this]
  | .agg cells, _, h => by
    simp only [Rep] at h
    obtain ⟨cv, e, h⟩ := h
    simp only [D.ren, RepL.unborn hid cells h]
  | .tup vs, _, h => by
    simp only [Rep] at h
    obtain ⟨cv, e, h⟩ := h
    simp only [D.ren, RepL.unborn hid vs h]
theorem RepL.unborn {id : Nat} (hid : mu id = none) : ∀ (ds : List D) {vs : List Value}, RepL w M mu ds vs → D.renL (killF id) ds = ds
  | [], [], _ => by simp only [D.renL]
  | [], _ :: _, h => by simp only [RepL] at h
  | _ :: _, [], h => by simp only [RepL] at h
  | d :: ds, v :: vs, h => by
    simp only [RepL] at h
    simp only [D.renL, Rep.unborn hid d h.1, RepL.unborn hid ds h.2]
end
theorem SR.noRow (h : SR G F w0 M0 w M mu tmps st) {id : Nat} (hid : mu id = none) : st.rows id = none := by
  cases e : st.rows id with
  | none => rfl
  | some row =>
    obtain ⟨l, hl, _⟩ := h.rows id row e
    rw [hid] at hl; cases hl
theorem SR.drop_unborn (h : SR G F w0 M0 w M mu tmps st) {id : Nat} (hid : mu id = none) : st.drop id = st := by
  have hrow : ∀ i row, st.rows i = some row → row.ren (killF id) = row := by
    intro i row hr
    obtain ⟨l, hl, hh⟩ := h.rows i row hr
    have key : ∀ cv, ContRep w M mu row.c cv → row.c.ren (killF id) = row.c := by
      intro cv hc
      cases e : row.c with
      | var cells => rw [e] at hc; simp only [Cont.ren, RepL.unborn hid cells hc.1]
      | _ => rfl
    have hc : row.c.ren (killF id) = row.c := by
      cases l with
      | nowhere => exact key _ hh
      | mapAt b => obtain ⟨_, _, _, _, h3, _⟩ := hh; exact key _ h3
      | nest b base size inn => obtain ⟨cs, T, cv, fl, h1, h2, hfl, _⟩ := hh; exact key _ (ContRep.of_flat hfl)
      | at_ b base size => obtain ⟨cs, T, cv, _, _, h3, _⟩ := hh; exact key _ h3
    unfold Row.ren
    rw [hc]
  cases st with
  | mk env rows =>
    unfold St.drop
    congr 1
    · exact RepL.unborn hid env h.env
    · funext i
      simp only
      split
      · rename_i e; subst e; exact (h.noRow hid).symm
      · cases e : rows i with
        | none => rfl
        | some row => simp only [Option.map_some, hrow i row e]
theorem SR.dropAll_unborn (h : SR G F w0 M0 w M mu tmps st) : ∀ (is : List Nat), (∀ i ∈ is, mu i = none) → dropAll is st = st := by
  intro is
  induction is with
  | nil => intro _; rfl
  | cons i is ih =>
    intro hi
    simp only [dropAll]
    rw [h.drop_unborn (hi i (by simp))]
    exact ih fun j hj => hi j (by simp [hj])
theorem SR.dropP (h : SR G F w0 M0 w M mu tmps st) (p : Nat → Bool) (hp : ∀ i, Pinned i → p i = false) : SR G F w0 M0 w M (fun r => if p r then none else mu r) tmps (st.dropP p) := by
  have hren : ∀ r i, killP p r = some i → (if p i then none else mu i) = mu r := fun r i e => by
    simp only [killP] at e
    split at e
    · cases e
    · rename_i hne; cases e; simp [hne]
  have rowOf : ∀ i ri, (st.dropP p).rows i = some ri → ∃ r0, st.rows i = some r0 ∧ ri = r0.ren (killP p) ∧ p i = false := by
    intro i ri hi
    simp only [St.dropP] at hi
    split at hi
    · cases hi
    · rename_i hne
      obtain ⟨r0, e0, rfl⟩ := Option.map_eq_some_iff.1 hi
      exact ⟨r0, e0, rfl, by simpa using hne⟩
  exact
  { h with
    env := RepL.ren hren _ h.env
    rows := fun i ri hi => by
      obtain ⟨r0, e0, rfl, hne⟩ := rowOf i ri hi
      exact (h.rows i r0 e0).ren hren (by simp [hne])
    apart := fun i j ri rj b hij hi hj mi mj bi bj => by
      obtain ⟨r0, e0, rfl, hne⟩ := rowOf i ri hi
      obtain ⟨r1, e1, rfl, hne1⟩ := rowOf j rj hj
      exact h.apart i j r0 r1 b hij e0 e1 mi mj (by simpa [hne] using bi) (by simpa [hne1] using bj)
    pin := fun i hi => by rw [← h.pin i hi, hp i hi]; simp }
theorem SR.look (h : SR G F w0 M0 w M mu tmps st) (L : List Nat) {rows : Nat → Option Row} (hr : ∀ i row, rows i = some row → st.rows i = some row) : SR G F w0 M0 w M mu tmps ⟨keepEnv L 0 st.env, rows⟩ :=
  { h with
    env := z5t _ 0 h.env
    rows := fun i r hi => h.rows i r (hr i r hi)
    apart := fun i j ri rj b hij hi hj => h.apart i j ri rj b hij (hr i ri hi) (hr j rj hj) }
theorem zk1 {p : Nat → Bool} {rows : Nat → Option Row} {i : Nat} {row : Row} (h : mask p rows i = some row) : rows i = some row := by
  unfold mask at h
  split at h
  · cases h
  · exact h
theorem zki {rows : Nat → Option Row} (i : Nat) (row : Row) (h : (fun _ => none : Nat → Option Row) i = some row) : rows i = some row := by cases h
theorem z8r (hX : XOK P X) (h : SR X.glob F w0 M0 w M mu a.tmps st) {o : Oper} {d : D} (hq : quietA X st o = some d) : ∃ v, (execOp a.eval o).run P w = .ok (.value v) w ∧ Rep w M mu d v := by
  unfold quietA at hq
  split at hq
  · rename_i x hop
    cases hq
    exact ⟨a.eval x, by simp [execOp, hop], ev_rep h x⟩
  · exact zcg hX h hq
theorem z54 {d : Nat} (hd : d < 10000) : nset (some d) (nid d) = true := by
  unfold nset nid
  rw [Nat.mod_eq_of_lt hd]
  simp
  omega
theorem zc8 {d j : Nat} (hd : d < 10000) : nset (some d) (xid d j) = true := by
  unfold nset xid
  rw [Nat.mod_eq_of_lt hd]
  have : j % 40 < 40 := Nat.mod_lt _ (by decide)
  simp
  omega
theorem z8m {d e : Option Tmp} {r : Nat} (hd : nset d r = true) (he : nset e r = true) : d = e ∧ ∃ t, d = some t := by
  cases d with
  | none => simp [nset] at hd
  | some d => cases e with
    | none => simp [nset] at he
    | some e =>
      simp [nset] at hd he
      exact ⟨by rw [← hd.2, ← he.2], d, rfl⟩
theorem zkk {d : Option Tmp} {r : Nat} (h : nset d r = true) : ¬ Pinned r := by
  cases d with
  | none => simp [nset] at h
  | some d => intro hp; simp only [nset, Bool.and_eq_true, decide_eq_true_eq] at h; exact absurd h.1.2 (Nat.not_lt.2 hp.1)
end
end Go.PR

end

section
namespace Go.PR
open Go
section
variable {P : Program} {X : Ctx} {F : Nat → Prop} {w0 w w' : World} {M0 : Entry} {M : Nat → Prop} {mu mu' : Nat → Option Loc} {a : Act} {st st1 : St}
theorem zei (h : SR X.glob F w0 M0 w M mu a.tmps st) {d : Nat} (hd : d < 10000) (hun : ∀ id, nset (some d) id = true → mu id = none) (r : Ret) : zx [] d r st.rows = addRows (some d) (zx [] d r fun _ => none) st.rows := by
  funext i
  unfold addRows zx
  cases e : (List.range r.out.length).find? (fun j => xid d j == i) with
  | some j =>
    have h1 := List.find?_some e
    have : xid d j = i := by simpa using h1
    rw [← this, zc8 hd]
    simp
  | none =>
    simp only [idx, List.findIdx?_nil]
    split
    · rename_i hn; rw [h.noRow (hun i hn)]
    · rfl
theorem zbd {k : IntKind} : ∀ {ds : List D} {vs : List Value} {xs : List Int}, intsD k ds = some xs → RepL w M mu ds vs → vs = intsV k xs ∧ ∀ v ∈ vs, v.oneCell' = true
  | [], [], xs, h, _ => by simp only [intsD] at h; cases h; exact ⟨rfl, by simp⟩
  | [], _ :: _, xs, _, h => by simp only [RepL] at h
  | _ :: _, [], xs, _, h => by simp only [RepL] at h
  | d :: ds, v :: vs, xs, h, hr => by
    simp only [RepL] at hr
    cases d with
    | int k' n =>
      simp only [intsD] at h
      split at h
      case isFalse => cases h
      rename_i e; subst e
      obtain ⟨ys, hy, rfl⟩ := Option.map_eq_some_iff.1 h
      obtain ⟨h1, h2⟩ := zbd hy hr.2
      have h3 := hr.1
      simp only [Rep] at h3
      subst h3
      refine ⟨by rw [h1]; rfl, fun u hu => ?_⟩
      rcases List.mem_cons.1 hu with rfl | hu
      · rfl
      · exact h2 u hu
    | _ => simp [intsD] at h
theorem z7v {k : IntKind} : ∀ {ds : List D} {vs : List Value} {xss : List (List Int)}, ints2D k ds = some xss → RepL w M mu ds vs → All2 (fun xs u => SlV w M (intsV k xs) u) xss vs ∧ ∀ v ∈ vs, v.oneCell' = true
  | [], [], xss, h, _ => by simp only [ints2D] at h; cases h; exact ⟨trivial, by simp⟩
  | [], _ :: _, xss, _, h => by simp only [RepL] at h
  | _ :: _, [], xss, _, h => by simp only [RepL] at h
  | d :: ds, v :: vs, xss, h, hr => by
    simp only [RepL] at hr
    cases d with
    | immI k' xs =>
      simp only [ints2D] at h
      split at h
      case isFalse => cases h
      rename_i e; subst e
      obtain ⟨ys, hy, rfl⟩ := Option.map_eq_some_iff.1 h
      obtain ⟨h1, h2⟩ := z7v hy hr.2
      have h3 := hr.1
      simp only [Rep] at h3
      refine ⟨⟨h3, h1⟩, fun u hu => ?_⟩
      rcases List.mem_cons.1 hu with rfl | hu
      · obtain ⟨A, c, e, _⟩ := h3; rw [e]; rfl
      · exact h2 u hu
    | nil k' =>
      simp only [ints2D] at h
      obtain ⟨ys, hy, rfl⟩ := Option.map_eq_some_iff.1 h
      obtain ⟨h1, h2⟩ := z7v hy hr.2
      have h3 := hr.1
      simp only [Rep] at h3
      obtain ⟨A, rfl, hA⟩ := h3
      refine ⟨⟨⟨A, 0, by simp [intsV], by simp [intsV], .inl (by simp [intsV])⟩, h1⟩, fun u hu => ?_⟩
      rcases List.mem_cons.1 hu with rfl | hu
      · rfl
      · exact h2 u hu
    | _ => simp [ints2D] at h
theorem z9y : ∀ {ds : List D} {vs : List Value} {xs : List Bool}, boolsD ds = some xs → RepL w M mu ds vs → vs = boolsV xs ∧ ∀ v ∈ vs, v.oneCell' = true
  | [], [], xs, h, _ => by simp only [boolsD] at h; cases h; exact ⟨rfl, by simp⟩
  | [], _ :: _, xs, _, h => by simp only [RepL] at h
  | _ :: _, [], xs, _, h => by simp only [RepL] at h
  | d :: ds, v :: vs, xs, h, hr => by
    simp only [RepL] at hr
    cases d with
    | bool n =>
      simp only [boolsD] at h
      obtain ⟨ys, hy, rfl⟩ := Option.map_eq_some_iff.1 h
      obtain ⟨h1, h2⟩ := z9y hy hr.2
      have h3 := hr.1
      simp only [Rep] at h3
      subst h3
      refine ⟨by rw [h1]; rfl, fun u hu => ?_⟩
      rcases List.mem_cons.1 hu with rfl | hu
      · rfl
      · exact h2 u hu
    | _ => simp [boolsD] at h
theorem za2 {nk : NK} {ds : List D} {vs : List Value} {c : Cont} (h : buildI nk ds = some c) (hr : RepL w M mu ds vs) : ContRep w M mu c vs ∧ c.isVar = false ∧ ∀ v ∈ vs, v.oneCell' = true := by
  unfold buildI at h
  split at h
  · obtain ⟨xs, h1, rfl⟩ := Option.map_eq_some_iff.1 h
    obtain ⟨h2, h3⟩ := z9y h1 hr
    exact ⟨by simp only [ContRep]; exact h2, rfl, h3⟩
  · obtain ⟨xs, h1, rfl⟩ := Option.map_eq_some_iff.1 h
    obtain ⟨h2, h3⟩ := zbd h1 hr
    exact ⟨by simp only [ContRep]; exact h2, rfl, h3⟩
  · obtain ⟨xs, h1, rfl⟩ := Option.map_eq_some_iff.1 h
    obtain ⟨h2, h3⟩ := z7v h1 hr
    exact ⟨by simp only [ContRep]; exact h2, rfl, h3⟩
  · cases h
theorem za3 {sh : List FK} : ∀ (ds : List D) {vs : List Value} {ps : List Rcd}, buildR0 sh ds = some ps → RepL w M mu ds vs →
    rcdsRep w M sh ps (vs.map fun v => v.cells.toList).flatten ∧ ps.length = ds.length ∧ ∀ v ∈ vs, v.cells.size = sh.length
  | [], vs, ps, hb, hr => by
    simp only [buildR0] at hb
    cases hb
    cases vs with
    | nil => exact ⟨by simp [rcdsRep], rfl, by simp⟩
    | cons => simp only [RepL] at hr
  | d :: ds, [], ps, hb, hr => by simp only [RepL] at hr
  | d :: ds, v :: vs, ps, hb, hr => by
    simp only [RepL] at hr
    cases d with
    | agg cells =>
      simp only [buildR0] at hb
      split at hb
      case h_2 => cases hb
      rename_i p hp
      obtain ⟨ps', hb', rfl⟩ := Option.map_eq_some_iff.1 hb
      obtain ⟨k2, k3, k4⟩ := za3 ds hb' hr.2
      have hv := hr.1
      simp only [Rep] at hv
      obtain ⟨cv, rfl, hcv⟩ := hv
      have hrc := z56 hp hcv
      have hlen := (rcdRep.cells (mu' := mu0) hrc).2
      refine ⟨⟨cv, _, by simp [Value.cells], hrc, k2⟩, by simp [k3], fun u hu => ?_⟩
      rcases List.mem_cons.1 hu with rfl | hu
      · simpa [Value.cells] using hlen
      · exact k4 u hu
    | _ => simp [buildR0] at hb
theorem zkd (hX : XOK P X) {cl : FuncId → List D → List Row → Option Ret} (hcl : ∀ f args prows r, cl f args prows = some r → Sound P X f args prows r) (h : SR X.glob F w0 M0 w M mu a.tmps st) (hw : SR X.glob F w0 M0 w M mu a.tmps st1) {o : Oper} (hlt : ∀ d, o.dst = some d → d < 10000) (hun : ∀ id, nset o.dst id = true → mu id = none) {p : D × (Nat → Option Row)} (hs : newD X cl st1 o = some p)
    {K : Act → World → Prop} {Q : Exit → Act → World → Prop} (hK : ∀ v w' M' mu', SR X.glob F w0 M0 w' M' mu' a.tmps { st with rows := addRows o.dst p.2 st.rows } → Rep w' M' mu' p.1 v → (∀ r, nset o.dst r = false → mu' r = mu r) → K (a.put o.dst v) w') : o.wp P a w K Q := by
  unfold newD at hs
  split at hs
  · -- a call
    rename_i g args argTypes d hop hdst
    rw [hdst] at hlt hun hK
    have hd := hlt d rfl
    split at hs
    case h_2 => cases hs
    rename_i f cap hg
    split at hs
    case isTrue => cases hs
    rename_i hft
    simp only [Bool.or_eq_true, not_or] at hft
    dsimp only at hs
    generalize hall : args.toList.map (ev X st1) ++ cap = all at hs
    generalize reach st1.rows all = Z at hs
    split at hs
    case h_2 => cases hs
    rename_i args' hargs
    split at hs
    case h_2 => cases hs
    rename_i r hcall
    split at hs
    case isFalse => cases hs
    rename_i hcond
    simp only [Bool.and_eq_true, decide_eq_true_eq, List.isEmpty_iff, Bool.or_eq_true, List.all_eq_true] at hcond
    obtain ⟨⟨hpn, hol⟩, hz⟩ := hcond
    cases hs
    have hgr := ev_rep hw g
    rw [hg] at hgr
    simp only [Rep] at hgr
    obtain ⟨cv, hgv, hcap⟩ := hgr
    obtain ⟨fn, hfn⟩ : ∃ fn, X.ft f = some fn := by cases e : X.ft f with | none => simp [e] at hft | some fn => exact ⟨fn, rfl⟩
    obtain ⟨k1, k2, k3⟩ := hX.ft f fn hfn
    have hr : RepL w M mu all (args.toList.map a.eval ++ cv) := by rw [← hall]; exact RepL.append (ev_repL hw args.toList) hcap
    have hrun : (execOp a.eval o).run P w = .ok (.enter f (args.toList.map a.eval ++ cv).toArray) w := by
      have k2' : ¬ fn.name = "runtime.NumGoroutine" := by simpa using k2
      have k3' : ¬ fn.body = none := by intro e; rw [e] at k3; cases k3
      simp [execOp, hop, resolve, hgv, Deferred.ofValue, invoke, callFunc, k1, k2', k3']
    unfold Oper.wp
    rw [hrun, Oper.upon_enter]
    generalize args.toList.map a.eval ++ cv = vs at hr
    let Mc := Less M mu st1.rows Z
    have hargs' : RepL w Mc mu0 args' vs := z3o (fun d d' v e hv => z3t hw Z mu0 _ d d' v e hv) hargs hr
    have hentry : SR X.glob (Fset w mu0 0) w ⟨Mc, mu0⟩ w Mc mu0 vs.toArray ⟨args', rowsIn []⟩ := by
      have none_ : ∀ i, rowsIn [] i = none := fun i => by unfold rowsIn; split <;> simp
      exact { env := by simpa using hargs', rows := (fun i ri hi => absurd ((none_ i).symm.trans hi) (by simp)), apart := (fun i j ri rj b _ hi => absurd ((none_ i).symm.trans hi) (by simp)), keeps := Keeps.refl _ _, m1 := fun _ _ h => h, m2 := fun _ h _ => h, mlt := fun b hb => h.mlt b hb.1, fr := fun _ h => .inl h, glob := fun g d hg => Rep.keeps (Keeps.refl _ _) (fun _ _ hb => hb.1) (fun _ _ h => h) d (h.glob g d hg), pin := fun _ _ => rfl }
    have hsound := hcl f _ _ r hcall w Mc mu0 vs hentry
    refine hsound.mono ?_
    rintro e w' ⟨v, M', mu', rfl, hc⟩
    have nd0 : nodupB [] = true := rfl
    have hup : (∀ b, M b → Mc b) ∨ (([] : List Nat) = [] ∧ r.res.noImm = true ∧ ∀ x ∈ r.out, x.wr = true ∧ x.c.noImm = true) := by
      rcases hz with rfl | ⟨h1, h2⟩
      · left; intro b hb; show Less M mu st1.rows [] b; rw [z89 rfl]; exact hb
      · exact .inr ⟨rfl, h1, fun x hx => by have := h2 x hx; simpa using this⟩
    obtain ⟨M'', mu'', k1, k2, k3⟩ := h.back [] d r nd0 (fun j i hi => by simp at hi) (by simp) (fun b hb => hb.1) (fun j i hi => by simp at hi) hc (by simp [hpn]) hol (fun i _ => by simp) hup [] (fun j i hi => by simp at hi)
    have hout : ∀ i ∈ outIds d r.out.length, nset (some d) i = true := fun i hi => by
      obtain ⟨q, _, rfl⟩ := List.mem_map.1 hi
      exact zc8 hd
    rw [List.nil_append, h.dropAll_unborn _ (fun i hi => hun i (hout i hi)), zei h hd hun r] at k1
    rw [hdst]
    refine hK v w' M'' mu'' k1 k2 (fun q hq => k3 q fun hm => ?_)
    rw [hout q hm] at hq
    cases hq
  · -- a literal
    rename_i t n parts d hop hdst
    rw [hdst] at hlt hun hK
    have hd := hlt d rfl
    split at hs
    case h_2 => cases hs
    rename_i e ei hel
    split at hs
    case isFalse =>
      split at hs
      case isFalse => cases hs
      rename_i hag
      split at hs
      case h_2 => cases hs
      rename_i ds sh hds hsh
      split at hs
      case isFalse => cases hs
      rename_i hn
      obtain ⟨ps, hb, rfl⟩ := Option.map_eq_some_iff.1 hs
      obtain ⟨hu, he⟩ := z17 hX hel
      obtain ⟨hdsv, hidx⟩ := z3s parts.toList 0 ds hds
      have hreps : RepL w M mu ds (parts.toList.map fun p => a.eval p.2) := by
        rw [hdsv]
        have : ∀ (ps : List (Nat × Operand)), RepL w M mu (ps.map fun p => ev X st1 p.2) (ps.map fun p => a.eval p.2) := by
          intro ps
          induction ps with
          | nil => simp only [List.map, RepL]
          | cons p ps ih => simp only [List.map, RepL]; exact ⟨ev_rep hw p.2, ih⟩
        exact this _
      obtain ⟨g2, g3, g4⟩ := za3 ds hb hreps
      have hvl : (parts.toList.map fun p => a.eval p.2).length = n := by rw [← hreps.length]; exact hn.1
      obtain ⟨cells, r1, r2, _⟩ := za4 (P := P) (w := w) hX hu he (vs := parts.toList.map fun p => a.eval p.2) (by rw [← hn.2]; exact g4) (by rw [hvl]; omega) (parts.map fun (i, x) => (i, a.eval x)) (by
        have hz := z40 a.eval parts.toList 0 hidx
        rw [← hz]
        simp) hag.2.2
      have hrun : (execOp a.eval o).run P w = .ok (.value (.slice (some ⟨w.heap.size, 0, none⟩) n n)) (w.alloc (.cells cells e)) := by
        rw [hvl] at r1
        simp only [execOp, hop]
        simp [r1]
      unfold Oper.wp
      rw [hrun]
      have hk := z9m w (.cells cells e)
      have h2 := h.world hk
      have hst : addRows (some d) (fun _ => none) st.rows = st.rows := by
        funext i
        unfold addRows
        split
        · rename_i hn'; rw [h.noRow (hun i hn')]
        · rfl
      show K (a.put o.dst _) _
      rw [hdst]
      refine hK _ _ M mu (by rw [hst]; exact h2) ?_ (fun q _ => rfl)
      simp only [Rep]
      refine ⟨_, n, _, by rw [g3, hn.1], by omega, g2.keeps (hk.mono fun _ _ h => h.elim) (fun _ _ h => h), .inr ⟨_, rfl, fun hm => absurd (h.mlt _ hm) (Nat.lt_irrefl _), fun j hj => ?_⟩⟩
      rw [zb]
      simp only [World.cell?, zy, Nat.zero_add]
      exact r2 j hj
    rename_i hsz
    split at hs
    case h_2 => cases hs
    rename_i ds hds
    split at hs
    case isFalse => cases hs
    rename_i hn
    obtain ⟨c, hb, rfl⟩ := Option.map_eq_some_iff.1 hs
    obtain ⟨hu, he⟩ := z17 hX hel
    obtain ⟨hdsv, hidx⟩ := z3s parts.toList 0 ds hds
    have hreps : RepL w M mu ds (parts.toList.map fun p => a.eval p.2) := by
      rw [hdsv]
      have : ∀ (ps : List (Nat × Operand)), RepL w M mu (ps.map fun p => ev X st1 p.2) (ps.map fun p => a.eval p.2) := by
        intro ps
        induction ps with
        | nil => simp only [List.map, RepL]
        | cons p ps ih => simp only [List.map, RepL]; exact ⟨ev_rep hw p.2, ih⟩
      exact this _
    obtain ⟨hvs, hnv, g4⟩ := za2 hb hreps
    have hvl : (parts.toList.map fun p => a.eval p.2).length = n := by rw [← hreps.length]; exact hn
    have hrun : (execOp a.eval o).run P w = .ok (.value (.slice (some ⟨w.heap.size, 0, none⟩) n n)) (w.alloc (.cells (parts.toList.map fun p => a.eval p.2).toArray e)) := by
      have := z5f (P := P) (w := w) hX hu he hsz.1 g4 (by rw [hvl]; exact hsz.2) (parts.map fun (i, x) => (i, a.eval x)) (by
        have hz := z40 a.eval parts.toList 0 hidx
        rw [← hz]
        simp)
      rw [hvl] at this
      simp [execOp, hop, this]
    unfold Oper.wp
    rw [hrun]
    have hid := hun (nid d) (z54 hd)
    obtain ⟨M', mu', e1, h2, h3⟩ := h.alloc (w' := w.alloc (.cells (parts.toList.map fun p => a.eval p.2).toArray e)) (nid d) (nid_pin d) c (parts.toList.map fun p => a.eval p.2).toArray e (parts.toList.map fun p => a.eval p.2) (Keeps.alloc _ w _) (zy w _) (fun mu' _ => hvs.anyMu hnv) (by simp) (fun j hj => by simp)
    have hst : st.newRow (nid d) ⟨true, c⟩ = { st with rows := addRows (some d) (fun i => if i = nid d then some ⟨true, c⟩ else none) st.rows } := by
      unfold St.newRow
      rw [h.drop_unborn hid]
      have : (fun i => if i = nid d then some (⟨true, c⟩ : Row) else st.rows i) = addRows (some d) (fun i => if i = nid d then some ⟨true, c⟩ else none) st.rows := by
       funext i
       unfold addRows
       by_cases hi : i = nid d
       · rw [hi, z54 hd]; simp
       · simp only [hi, if_false]
         split
         · rename_i hn; rw [h.noRow (hun i hn)]
         · rfl
      show ({ env := st.env, rows := fun i => if i = nid d then some (⟨true, c⟩ : Row) else st.rows i } : St) = _
      rw [this]
    rw [hst] at h2
    show K (a.put o.dst _) _
    rw [hdst]
    refine hK _ _ M' mu' h2 ?_ (fun q hq => h3 q fun e => ?_)
    · simp only [Rep]
      exact ⟨_, e1, .inr ⟨n, rfl, Nat.le_refl _, by simpa using hvl.symm⟩⟩
    · rw [e, z54 hd] at hq; cases hq
  · cases hs
theorem SR.storeCell (hX : XOK P X) (h : SR X.glob F w0 M0 w M mu a.tmps st) {t : TypeId} {i : TI} (ht : X.tt t = some i) (hsz : i.size = 1) {r off : Nat} {d : D} {u v : Value} (hu : Rep w M mu (.ptr r off) u) (hv : Rep w M mu d v) (hone : v.oneCell' = true)
    {old : List D} (hr : st.rows r = some ⟨true, .var old⟩) (hlt : off < old.length) : ∃ w', (Instr.storeAt t u v).run P w = .ok () w' ∧ SR X.glob F w0 M0 w' M mu a.tmps (st.setRow r ⟨true, .var (old.set off d)⟩) := by
  simp only [Rep] at hu
  obtain ⟨l, hl, hcell⟩ := hu
  cases l with
  | nowhere => simp [Loc.cell] at hcell
  | mapAt b => simp [Loc.cell] at hcell
  | nest => simp [Loc.cell] at hcell
  | at_ b base size =>
    simp only [Loc.cell] at hcell
    subst hcell
    obtain ⟨cs, T, cv, k1, k2, k3, k4, k5⟩ := h.rowAt hr rfl hl
    have hlen := k3.len
    have hlen' : cv.length = old.length := hlen
    have e1 : ContRep w M mu (.var (old.set off d)) (cv.set off v) := ⟨RepL.set hv off k3.1, fun u hu => by
      rcases List.mem_or_eq_of_mem_set hu with h1 | h1
      · exact k3.2 u h1
      · rw [h1]; exact hone⟩
    have hcl : v.cells = #[v] := by cases v <;> simp_all [Value.oneCell', Value.cells]
    refine ⟨w.setCell ⟨b, base + off, none⟩ v, ?_, h.write hr rfl hl (z8z w ⟨b, base + off, none⟩ v) e1 (z8y k1 (base + off) v) (by simpa using k2) (by simpa using k4) ?_⟩
    · have hst := run_storeCells_cells (P := P) b (base + off) [v] 0 w (fun q hq => z1v k1 (by simp at hq; omega)) (fun q hq => z1x k1 _ _) (by simpa using hone)
      simp only [Nat.add_zero, World.setCells] at hst
      simp [Instr.storeAt, Instr.sureAddr, Go.storeVar, za hX ht, hsz, hcl, hst]
    · intro q hq
      simp only [List.length_set] at hq
      rw [Array.getElem?_setIfInBounds]
      by_cases hqj : off = q
      · subst hqj
        rw [if_pos rfl, if_pos (by omega), List.getElem?_set_self (by omega)]
      · rw [if_neg (by omega), List.getElem?_set_ne hqj]
        exact k5 q hq
theorem zf4 {d : D} {v : Value} (hs : cell1 d = true) (h : Rep w M mu d v) : v.oneCell' = true := by
  cases d <;> simp [cell1] at hs <;> simp only [Rep] at h
  case bool => subst h; rfl
  case int => subst h; rfl
  case str => subst h; rfl
  case nil => obtain ⟨A, rfl, _⟩ := h; rfl
  case rsl =>
    obtain ⟨l, _, h⟩ := h
    cases l with
    | mapAt b => exact h.elim
    | nest => exact h.elim
    | nowhere => obtain ⟨_, A, rfl⟩ := h; rfl
    | at_ b base size =>
      rcases h with ⟨_, _, A, rfl⟩ | ⟨c, rfl, _⟩ <;> rfl
def appendW (id : Nat) (ei : TI) (nk : NK) (x y : D) (rows : Nat → Option Row) : Option (D × Chg) :=
  if ei.size = 1 ∧ ei.bytes ≤ 64 then
    match srcC rows y with
    | none => none
    | some none => match x with
      | .nil k => some (.nil (if k = .unk then nk else k), .keep)
      | .rsl r off n => some (.rsl r off n, .keep)
      | _ => none
    | some (some cy) => match x with
      | .nil _ => if cy.len ≤ lim then some (.rsl id 0 cy.len, .add cy) else none
      | .rsl r off n => match rows r with
        | some ⟨true, cx⟩ => if cx.isVar then none
          else if off + n = cx.len then
            (if n + cy.len ≤ lim then match cx.sub off n with
              | some c0 => (c0.app cy).map fun c => (.rsl id 0 (n + cy.len), .app r c)
              | none => none else none)
          else if off + n + cy.len ≤ cx.len then (cx.over (off + n) cy).map fun c => (.rsl r off (n + cy.len), .set r c)
          else none
        | _ => none
      | _ => none
  else none
theorem z9n (id : Nat) (ei : TI) (nk : NK) (x y : D) (st : St) : appendD X id ei nk x y st = (appendW id ei nk x y st.rows).map fun p => (p.1, p.2.apply id st) := by
  unfold appendD appendW
  split
  · cases srcC st.rows y with
    | none => rfl
    | some q => cases q with
      | none => cases x <;> rfl
      | some cy => cases x with
        | nil k => dsimp only; split <;> rfl
        | rsl r off n =>
          dsimp only
          cases st.rows r with
          | none => rfl
          | some row =>
            obtain ⟨wr, cx⟩ := row
            cases wr with
            | false => rfl
            | true =>
              dsimp only
              split
              · rfl
              · split
                · split
                  · cases cx.sub off n with
                    | none => rfl
                    | some c0 => dsimp only; cases c0.app cy <;> rfl
                  · rfl
                · split
                  · cases cx.over (off + n) cy <;> rfl
                  · rfl
        | _ => rfl
  · rfl
theorem Chg.rows_env (id : Nat) (env : List D) (rows : Nat → Option Row) (c : Chg) : (c.apply id ⟨env, rows⟩).rows = (c.apply id ⟨[], rows⟩).rows := by cases c <;> rfl
theorem Chg.env_of (h : SR X.glob F w0 M0 w M mu a.tmps st) {id : Nat} (hid : mu id = none) (c : Chg) : (c.apply id st).env = st.env := by
  cases c with
  | keep => rfl
  | add c => simp only [Chg.apply, St.newRow, h.drop_unborn hid]
  | app r c => simp only [Chg.apply, St.newRow, (h.forget r).drop_unborn hid]; rfl
  | set r c => rfl
def Chg.flat : Chg → Prop
  | .keep | .set _ _ => True
  | _ => False
theorem za6 {c : Chg} (hc : c.flat) : c.apply 0 st = { st with rows := (c.apply 0 ⟨[], st.rows⟩).rows } := by
  cases c with
  | keep => rfl
  | set r c => rfl
  | _ => exact hc.elim
theorem zpf (hX : XOK P X) (h : SR X.glob F w0 M0 w M mu a.tmps st) (hw : SR X.glob F w0 M0 w M mu a.tmps st1) {o : Oper} (hlt : ∀ d, o.dst = some d → d < 10000) (hun : ∀ id, nset o.dst id = true → mu id = none) {p : D × (Nat → Option Row)} (hs : writeD X st1 st.rows o = some p)
    {K : Act → World → Prop} {Q : Exit → Act → World → Prop} (hK : ∀ v w' M' mu', SR X.glob F w0 M0 w' M' mu' a.tmps { st with rows := p.2 } → Rep w' M' mu' p.1 v → (∀ r, nset o.dst r = false → mu' r = mu r) → K (a.put o.dst v) w') : o.wp P a w K Q := by
  unfold writeD at hs
  split at hs
  · rename_i args argTypes d hop hdst
    rw [hdst] at hlt hun hK
    have hd := hlt d rfl
    split at hs
    case h_2 => cases hs
    rename_i x y t ty hargs hty
    split at hs
    case h_2 => cases hs
    rename_i e ei e' _ _ _ hel hty2
    obtain ⟨⟨r, s⟩, ha, rfl⟩ := Option.map_eq_some_iff.1 hs
    obtain ⟨hu, he⟩ := z17 hX hel
    have hk := (hX.tt _ _ hty2).kind
    obtain rfl : args = #[x, y] := by cases args; simp_all
    obtain rfl : argTypes = #[t, ty] := by cases argTypes; simp_all
    have hid := hun (nid d) (z54 hd)
    rw [z9n] at ha
    obtain ⟨⟨r', c⟩, hc, e0⟩ := Option.map_eq_some_iff.1 ha
    simp only [Prod.mk.injEq] at e0
    obtain ⟨rfl, rfl⟩ := e0
    have hfull : appendD X (nid d) ei (nkElem X e) (ev X st1 x) (ev X st1 y) st = some (r', c.apply (nid d) st) := by
      rw [z9n, hc]; rfl
    obtain ⟨v, w', M', mu', h1, h2, h3, h4⟩ := z9p (t' := o.type) hX h hu he hk (nid_pin d) (ev_rep hw x) (ev_rep hw y) hfull
    have hrun : (execOp a.eval o).run P w = .ok (.value v) w' := by simp [execOp, hop, resolve, invoke, builtin, h1]
    unfold Oper.wp
    rw [hrun]
    show K (a.put o.dst v) w'
    rw [hdst]
    have hst : c.apply (nid d) st = { st with rows := (c.apply (nid d) ⟨[], st.rows⟩).rows } := by
      have e1 := c.env_of h hid
      have e2 := c.rows_env (nid d) st.env st.rows
      cases st with
      | mk env rows =>
        generalize hq : c.apply (nid d) ⟨env, rows⟩ = q at *
        cases q with
        | mk e r => simp only at e1 e2; rw [e1, e2]
    rw [hst] at h2
    exact hK v w' M' mu' h2 h3 fun q hq => h4 q fun e => by rw [e, z54 hd] at hq; cases hq
  · rename_i t ad x hop hdst
    split at hs
    case h_3 => cases hs
    case h_2 =>
      rename_i i r off ht had
      split at hs
      case isFalse => cases hs
      rename_i hcond
      split at hs
      case h_2 => cases hs
      rename_i old hrow
      split at hs
      case isFalse => cases hs
      rename_i hlt
      cases hs
      have hA := ev_rep hw ad
      rw [had] at hA
      obtain ⟨w', h1, h2⟩ := SR.storeCell hX h ht hcond.1 hA (ev_rep hw x) (zf4 hcond.2.2 (ev_rep hw x)) hrow hlt
      have hrun : (execOp a.eval o).run P w = .ok .skip w' := by simp [execOp, hop, h1]
      unfold Oper.wp
      rw [hrun, Oper.upon_skip]
      exact hK undef w' M mu h2 (by simp only [Rep]) (fun _ _ => rfl)
    rename_i i r j ht had
    split at hs
    case isFalse => cases hs
    rename_i hcond
    split at hs
    case h_2 => cases hs
    rename_i c hrow
    split at hs
    case isTrue => cases hs
    obtain ⟨c', hc', rfl⟩ := Option.map_eq_some_iff.1 hs
    have hA := ev_rep hw ad
    rw [had] at hA
    obtain ⟨w', h1, h2⟩ := SR.storeEl hX h ht hcond.1 hA (ev_rep hw x) hrow hc'
    have hrun : (execOp a.eval o).run P w = .ok .skip w' := by simp [execOp, hop, h1]
    unfold Oper.wp
    rw [hrun, Oper.upon_skip]
    have := hK undef w' M mu h2 (by simp only [Rep]) (fun _ _ => rfl)
    exact this
  · -- copy
    rename_i args argTypes hop
    split at hs
    case h_2 => cases hs
    rename_i x y t ty hargs hty
    split at hs
    case h_2 => cases hs
    rename_i e ei e' _ _ _ hel hty2
    split at hs
    case isFalse => cases hs
    rename_i hsz
    obtain ⟨⟨r, c⟩, ha, rfl⟩ := Option.map_eq_some_iff.1 hs
    obtain ⟨hu, he⟩ := z17 hX hel
    have hk := (hX.tt _ _ hty2).kind
    obtain rfl : args = #[x, y] := by cases args; simp_all
    obtain rfl : argTypes = #[t, ty] := by cases argTypes; simp_all
    obtain ⟨v, w', h1, h2, h3⟩ := zag (t' := o.type) hX h hu he hsz hk (ev_rep hw x) (ev_rep hw y) ha
    have hrun : (execOp a.eval o).run P w = .ok (.value v) w' := by simp [execOp, hop, resolve, invoke, builtin, h1]
    unfold Oper.wp
    rw [hrun]
    rw [za6 (by unfold copyW at ha; revert ha; repeat' split
                all_goals (try simp)
                all_goals (intros; subst_vars; trivial))] at h2
    exact hK v w' M mu h2 h3 (fun _ _ => rfl)
  · -- clear
    rename_i args argTypes hop
    split at hs
    case h_2 => cases hs
    rename_i x t hargs hty
    split at hs
    case h_2 => cases hs
    rename_i e ei hel
    split at hs
    case isFalse => cases hs
    rename_i hsz
    obtain ⟨⟨r, c⟩, ha, rfl⟩ := Option.map_eq_some_iff.1 hs
    obtain ⟨hu, he⟩ := z17 hX hel
    obtain rfl : args = #[x] := by cases args; simp_all
    obtain rfl : argTypes = #[t] := by cases argTypes; simp_all
    obtain ⟨v, w', h1, h2, h3⟩ := za8 (t' := o.type) hX h hu he hsz (ev_rep hw x) ha
    have hrun : (execOp a.eval o).run P w = .ok (.value v) w' := by simp [execOp, hop, resolve, invoke, builtin, h1]
    unfold Oper.wp
    rw [hrun]
    rw [za6 (by unfold clearW at ha; revert ha; repeat' split
                all_goals (try simp)
                all_goals (intros; subst_vars; trivial))] at h2
    exact hK v w' M mu h2 h3 (fun _ _ => rfl)
  · cases hs
end
end Go.PR

end

section
namespace Go.PR
open Go
theorem z5s (ts : List Nat) : ∀ (i : Nat) (ds : List D) (j : Nat), (keepEnv ts i ds)[j]? = (ds[j]?).map fun d => if ts.contains (i + j) then d else .any
  | i, [], j => by simp [keepEnv]
  | i, d :: ds, 0 => by simp [keepEnv]
  | i, d :: ds, j + 1 => by
    simp only [keepEnv, List.getElem?_cons_succ, z5s ts (i + 1) ds j]
    rw [Nat.add_right_comm, Nat.add_assoc]
theorem z7y {ts : List Nat} {ds : List D} {t : Nat} (d : D) (h : t ∉ ts) : keepEnv ts 0 (ds.set t d) = keepEnv ts 0 ds := by
  apply List.ext_getElem?
  intro j
  rw [z5s, z5s, List.getElem?_set]
  by_cases e : t = j
  · subst e
    have : ts.contains (0 + t) = false := by simpa using h
    rw [this]
    by_cases hl : t < ds.length
    · simp [hl]
    · simp [hl]
  · simp [e]
def envD (dst : Option Tmp) (d : D) (env : List D) : List D := match dst with | some t => env.set t d | none => env
theorem setD_eq (st : St) (dst : Option Tmp) (d : D) : st.setD dst d = ⟨envD dst d st.env, st.rows⟩ := by cases dst <;> rfl
theorem z7x {ts : List Nat} {env : List D} {dst : Option Tmp} (d : D) (h : ∀ t, dst = some t → t ∉ ts) : keepEnv ts 0 (envD dst d env) = keepEnv ts 0 env := by
  cases dst with
  | none => rfl
  | some t => exact z7y d (h t rfl)
theorem zfr {x y : Option Tmp} (h : ∀ t, x = some t → y ≠ some t) (d e : D) (env : List D) : envD x d (envD y e env) = envD y e (envD x d env) := by
  cases x with
  | none => rfl
  | some t => cases y with
    | none => rfl
    | some u =>
      have : t ≠ u := fun e' => h t rfl (e' ▸ rfl)
      simp only [envD]
      exact List.set_comm _ _ (Ne.symm this)
inductive Rch where
  | keep | add (f : Nat → Option Row) | to (g : Nat → Option Row)
def Rch.ap (dst : Option Tmp) (rows : Nat → Option Row) : Rch → Nat → Option Row
  | .keep => rows
  | .add f => addRows dst f rows
  | .to g => g
section
variable {X : Ctx} {cl : FuncId → List D → List Row → Option Ret} {ops : Array Oper} {clo : List Nat}
def seen (ops : Array Oper) (clo : List Nat) (k : Nat) (o : Oper) (rows : Nat → Option Row) : Nat → Option Row :=
  match cls o.op with
  | .pure => fun _ => none
  | .read => mask (maskP clo k ops.toList 0) rows
  | .new => mask (maskP clo k ops.toList 0) rows
  | .write => rows
  | .no => rows
def effD (X : Ctx) (cl : FuncId → List D → List Row → Option Ret) (ops : Array Oper) (o : Oper) (e : List D) (R : Nat → Option Row) : Option (D × Rch) :=
  match wanted ops ⟨e, fun _ => none⟩ o with
  | .no => some (.und, .keep)
  | .unknown => none
  | .yes => match cls o.op with
    | .pure => (quietA X ⟨e, R⟩ o).map fun d => (d, .keep)
    | .read => (quietA X ⟨e, R⟩ o).map fun d => (d, .keep)
    | .new => (newD X cl ⟨e, R⟩ o).map fun p => (p.1, .add p.2)
    | .write => (writeD X ⟨e, fun _ => none⟩ R o).map fun p => (p.1, .to p.2)
    | .no => none
theorem z9b (k : Nat) (o : Oper) (st : St) : stepD X cl ops clo k o st = (effD X cl ops o (keepEnv (o.looksAt ops) 0 st.env) (seen ops clo k o st.rows)).map fun p => ⟨envD o.dst p.1 st.env, p.2.ap o.dst st.rows⟩ := by
  unfold stepD effD seen
  dsimp only
  generalize keepEnv (o.looksAt ops) 0 st.env = e
  cases wanted ops ⟨e, fun _ => none⟩ o with
  | no => simp [setD_eq, Rch.ap]
  | unknown => rfl
  | yes =>
    dsimp only
    cases cls o.op with
    | pure => dsimp only; cases quietA X ⟨e, fun _ => none⟩ o <;> simp [setD_eq, Rch.ap]
    | read => dsimp only; cases quietA X ⟨e, mask (maskP clo k ops.toList 0) st.rows⟩ o <;> simp [setD_eq, Rch.ap]
    | new => dsimp only; cases newD X cl ⟨e, mask (maskP clo k ops.toList 0) st.rows⟩ o <;> simp [setD_eq, Rch.ap]
    | write => dsimp only; cases writeD X ⟨e, fun _ => none⟩ st.rows o <;> simp [setD_eq, Rch.ap]
    | no => rfl
theorem z70 {dst : Option Tmp} {add rows : Nat → Option Row} {p : Nat → Bool} (h : ∀ r, nset dst r = true → p r = true) : mask p (addRows dst add rows) = mask p rows := by
  funext i
  unfold mask addRows
  cases e : p i with
  | true => rfl
  | false =>
    have : nset dst i = false := by
      cases e2 : nset dst i with
      | false => rfl
      | true => rw [h i e2] at e; cases e
    simp [this]
theorem ze8 {x y : Option Tmp} (hd : ∀ r, nset x r = true → nset y r = true → False) (f g rows : Nat → Option Row) : addRows x f (addRows y g rows) = addRows y g (addRows x f rows) := by
  funext i
  unfold addRows
  cases e : nset x i with
  | false => simp
  | true =>
    cases e2 : nset y i with
    | false => simp
    | true => exact (hd i e e2).elim
theorem z7j {o : Oper} {e : List D} {R : Nat → Option Row} {p : D × Rch} (hc : cls o.op = .pure ∨ cls o.op = .read) (h : effD X cl ops o e R = some p) : p.2 = .keep := by
  unfold effD at h
  split at h
  · cases h; rfl
  · cases h
  · rcases hc with hc | hc <;> (rw [hc] at h; simp only at h; obtain ⟨d, h1, rfl⟩ := Option.map_eq_some_iff.1 h; rfl)
theorem zfn {o : Oper} {e : List D} {R : Nat → Option Row} {p : D × Rch} (hc : cls o.op = .new) (h : effD X cl ops o e R = some p) : p.2 = .keep ∨ ∃ f, p.2 = .add f := by
  unfold effD at h
  split at h
  · cases h; exact .inl rfl
  · cases h
  · rw [hc] at h; simp only at h; obtain ⟨d, h1, rfl⟩ := Option.map_eq_some_iff.1 h; exact .inr ⟨_, rfl⟩
theorem effD_rn {o : Oper} {e : List D} {R : Nat → Option Row} {p : D × Rch} (hc : cls o.op = .read ∨ cls o.op = .new) (h : effD X cl ops o e R = some p) : p.2 = .keep ∨ ((∃ f, p.2 = .add f) ∧ makes o.op = true) := by
  rcases hc with hc | hc
  · exact .inl (z7j (.inr hc) h)
  · rcases zfn hc h with h1 | h1
    · exact .inl h1
    · exact .inr ⟨h1, by simp [makes, hc]⟩
theorem zox {k i : Nat} {ok oi : Oper} (hap : ok.apart ops oi = true)
    (hcl : cls ok.op = .pure ∨ cls oi.op = .pure ∨ ((cls ok.op = .read ∨ cls ok.op = .new) ∧ (cls oi.op = .read ∨ cls oi.op = .new)))
    (hmi : makes ok.op = true → ∀ r, nset ok.dst r = true → maskP clo i ops.toList 0 r = true) (hmk : makes oi.op = true → ∀ r, nset oi.dst r = true → maskP clo k ops.toList 0 r = true)
    (hdis : makes ok.op = true → makes oi.op = true → ∀ r, nset ok.dst r = true → nset oi.dst r = true → False)
    {st st1 st2 : St} (h1 : stepD X cl ops clo k ok st = some st1) (h2 : stepD X cl ops clo i oi st1 = some st2) : ∃ s, stepD X cl ops clo i oi st = some s ∧ stepD X cl ops clo k ok s = some st2 := by
  obtain ⟨a1, a2, a3⟩ := Oper.apart_spec hap
  rw [z9b] at h1 h2
  obtain ⟨p, hp, rfl⟩ := Option.map_eq_some_iff.1 h1
  obtain ⟨q, hq, rfl⟩ := Option.map_eq_some_iff.1 h2
  dsimp only at hq
  rw [z7x _ (fun t ht => a1 t ht)] at hq
  have key : seen ops clo i oi (p.2.ap ok.dst st.rows) = seen ops clo i oi st.rows ∧ (effD X cl ops oi (keepEnv (oi.looksAt ops) 0 st.env) (seen ops clo i oi st.rows) = some q → seen ops clo k ok (q.2.ap oi.dst st.rows) = seen ops clo k ok st.rows ∧ p.2.ap ok.dst (q.2.ap oi.dst st.rows) = q.2.ap oi.dst (p.2.ap ok.dst st.rows)) := by
    rcases hcl with hc | hc | ⟨hc, hc'⟩
    · have e := z7j (.inl hc) hp
      rw [e]
      refine ⟨rfl, fun _ => ⟨by unfold seen; rw [hc], rfl⟩⟩
    · refine ⟨by unfold seen; rw [hc], fun hq => ?_⟩
      have e := z7j (.inl hc) hq
      rw [e]
      exact ⟨rfl, rfl⟩
    · have si : ∀ R, seen ops clo i oi R = mask (maskP clo i ops.toList 0) R := fun R => by unfold seen; rcases hc' with h | h <;> rw [h]
      have sk : ∀ R, seen ops clo k ok R = mask (maskP clo k ops.toList 0) R := fun R => by unfold seen; rcases hc with h | h <;> rw [h]
      rw [si, si, sk, sk]
      rcases effD_rn hc hp with e | ⟨⟨f, e⟩, m⟩
      · rw [e]
        refine ⟨rfl, fun hq => ?_⟩
        rcases effD_rn hc' hq with e' | ⟨⟨g, e'⟩, m'⟩
        · rw [e']; exact ⟨rfl, rfl⟩
        · rw [e']; exact ⟨z70 (hmk m'), rfl⟩
      · rw [e]
        refine ⟨z70 (hmi m), fun hq => ?_⟩
        rcases effD_rn hc' hq with e' | ⟨⟨g, e'⟩, m'⟩
        · rw [e']; exact ⟨rfl, rfl⟩
        · rw [e']; exact ⟨z70 (hmk m'), ze8 (hdis m m') _ _ _⟩
  rw [key.1] at hq
  obtain ⟨k1, k2⟩ := key.2 hq
  refine ⟨⟨envD oi.dst q.1 st.env, q.2.ap oi.dst st.rows⟩, by rw [z9b, hq]; rfl, ?_⟩
  rw [z9b]
  dsimp only
  rw [z7x _ (fun t ht => a3 t ht), k1, hp]
  simp only [Option.map_some, k2, zfr a2]
def runL (f : Nat → St → Option St) : List Nat → St → Option St
  | [], st => some st
  | i :: is, st => match f i st with
    | some s => runL f is s
    | none => none
theorem zco {f : Nat → St → Option St} {i : Nat} {L2 : List Nat} : ∀ (L1 : List Nat) {st st' : St}, (∀ k ∈ L1, ∀ a b c, f k a = some b → f i b = some c → ∃ s, f i a = some s ∧ f k s = some c) →
    runL f (L1 ++ i :: L2) st = some st' → ∃ s, f i st = some s ∧ runL f (L1 ++ L2) s = some st'
  | [], st, st', _, h => by
    simp only [List.nil_append, runL] at h ⊢
    split at h
    · rename_i s hs; exact ⟨s, hs, h⟩
    · cases h
  | k :: L1, st, st', hc, h => by
    simp only [List.cons_append, runL] at h
    split at h
    case h_2 => cases h
    rename_i s1 hs1
    obtain ⟨s2, h1, h2⟩ := zco L1 (fun k hk => hc k (by simp [hk])) h
    obtain ⟨s, h3, h4⟩ := hc k (by simp) _ _ _ hs1 h1
    exact ⟨s, h3, by simp only [List.cons_append, runL, h4, h2]⟩
def stepI (X : Ctx) (cl : FuncId → List D → List Row → Option Ret) (ops : Array Oper) (clo : List Nat) (i : Nat) (st : St) : Option St :=
  match ops[i]? with
  | some o => stepD X cl ops clo i o st
  | none => none
theorem ze0 : ∀ (l : List Oper) (k : Nat) (st : St), (∀ j, l[j]? = ops[k + j]? ∨ l.length ≤ j) → stepsD X cl ops clo l k st = runL (stepI X cl ops clo) (List.range' k l.length) st
  | [], k, st, _ => by simp [stepsD, runL]
  | o :: l, k, st, hl => by
    have h0 : ops[k]? = some o := by have := hl 0; have := (by simpa using this : some o = _); exact this.symm
    simp only [stepsD, List.length_cons, List.range'_succ, runL, stepI, h0]
    cases stepD X cl ops clo k o st with
    | none => rfl
    | some s =>
      dsimp only
      exact ze0 l (k + 1) s fun j => by
        have := hl (j + 1)
        simpa [Nat.add_assoc, Nat.add_comm 1 j] using this
def Down (ops : Array Oper) (S : Nat → Prop) : Prop := ∀ j o, S j → ops[j]? = some o → ∀ e ∈ o.after, Region.binds .any e = true → S e.on
theorem zau (acc : List Nat) {S : Nat → Prop} (hacc : ∀ j k, (acc.getD j 0).testBit k = true → S j → S k) : ∀ (es : List Edge) (m : Nat), (∀ k, m.testBit k = true → S k) → (∀ e ∈ es, Region.binds .any e = true → S e.on) →
    ∀ k, (es.foldl (fun m e => if Region.binds .any e then (m ||| 2 ^ e.on) ||| acc.getD e.on 0 else m) m).testBit k = true → S k
  | [], m, hm, _, k, h => hm k h
  | e :: es, m, hm, he, k, h => by
    simp only [List.foldl_cons] at h
    refine zau acc hacc es _ ?_ (fun e' h' => he e' (by simp [h'])) k h
    intro q hq
    split at hq
    · rename_i hb
      have hS := he e (by simp) hb
      simp only [Nat.testBit_or, Bool.or_eq_true] at hq
      rcases hq with (h1 | h1) | h1
      · exact hm q h1
      · rw [Nat.testBit_two_pow] at h1
        have : e.on = q := by simpa using h1
        rw [← this]; exact hS
      · exact hacc _ _ h1 hS
    · exact hm q hq
theorem z7e {S : Nat → Prop} (hS : Down ops S) : ∀ (l : List Oper) (acc : List Nat), (∀ j, l[j]? = ops[acc.length + j]? ∨ l.length ≤ j) → (∀ j k, (acc.getD j 0).testBit k = true → (∀ o, ops[j]? = some o → ∀ e ∈ o.after, Region.binds .any e = true → S e.on) → S k) →
    ∀ j k, ((closL l acc).getD j 0).testBit k = true → (∀ o, ops[j]? = some o → ∀ e ∈ o.after, Region.binds .any e = true → S e.on) → S k
  | [], acc, _, h => h
  | o :: l, acc, hl, h => by
    have h0 : ops[acc.length]? = some o := by have := hl 0; have := (by simpa using this : some o = _); exact this.symm
    simp only [closL]
    refine z7e hS l _ (fun j => ?_) ?_
    · have := hl (j + 1)
      simpa [Nat.add_assoc, Nat.add_comm 1 j] using this
    · intro j k hb hpre
      by_cases hj : j < acc.length
      · rw [List.getD_eq_getElem?_getD, List.getElem?_append_left hj, ← List.getD_eq_getElem?_getD] at hb
        exact h j k hb hpre
      · rw [List.getD_eq_getElem?_getD, List.getElem?_append_right (by omega)] at hb
        by_cases hj2 : j = acc.length
        · subst hj2
          simp only [Nat.sub_self, List.getElem?_cons_zero, Option.getD_some] at hb
          refine zau acc (fun q k hq hSq => h q k hq fun o ho e he hbnd => hS q o hSq ho e he hbnd) _ _ (fun k hk => by simp at hk) (fun e he hbnd => hpre o h0 e (by simpa using he) hbnd) k hb
        · have : ([o.after.toList.foldl (fun m e => if Region.binds .any e then (m ||| 2 ^ e.on) ||| acc.getD e.on 0 else m) 0])[j - acc.length]? = none := List.getElem?_eq_none (by simp; omega)
          rw [this] at hb
          simp at hb
theorem z8e : ∀ (l : List Oper) (j0 : Nat) {k j : Nat} {o : Oper} {r : Nat}, l[j]? = some o → j0 + j ≠ k → (k < j0 + j ∨ (clo.getD k 0).testBit (j0 + j) = false) → makes o.op = true → nset o.dst r = true → maskP clo k l j0 r = true
  | [], j0, k, j, o, r, h, _, _, _, _ => by simp at h
  | o' :: l, j0, k, 0, o, r, h, hne, hw, hm, hn => by
    simp at h; subst h
    simp only [maskP, Nat.add_zero] at hne hw ⊢
    simp [hne, hm, hn]
    rcases hw with h | h
    · exact .inl (.inl h)
    · exact .inl (.inr h)
  | o' :: l, j0, k, j + 1, o, r, h, hne, hw, hm, hn => by
    have e : j0 + (j + 1) = j0 + 1 + j := by omega
    rw [e] at hne hw
    simp only [maskP, Bool.or_eq_true]
    exact .inr (z8e l (j0 + 1) (by simpa using h) hne hw hm hn)
theorem z6a {i : Nat} {oi : Oper} : ∀ (l : List Oper) (k0 : Nat), orderAt ops clo i oi l k0 = true → ∀ (j : Nat) (ok : Oper), l[j]? = some ok → k0 + j < i →
    ((clo.getD i 0).testBit (k0 + j) = true ∨ commOK ops ok oi = true) ∧ (makes ok.op = true → makes oi.op = true → ∀ t, ok.dst = some t → oi.dst ≠ some t)
  | [], k0, _, j, ok, h, _ => by simp at h
  | o :: l, k0, ho, 0, ok, h, hlt => by
    simp at h; subst h
    simp only [orderAt, Bool.and_eq_true, Bool.or_eq_true, decide_eq_true_eq] at ho
    rcases ho.1 with h1 | h1
    · omega
    · refine ⟨by simpa using h1.1, fun m1 m2 t ht hn => ?_⟩
      have h2 := h1.2
      simp [m1, m2, ht, hn] at h2
  | o :: l, k0, ho, j + 1, ok, h, hlt => by
    simp only [orderAt, Bool.and_eq_true] at ho
    have e : k0 + (j + 1) = k0 + 1 + j := by omega
    rw [e] at hlt ⊢
    exact z6a l (k0 + 1) ho.2 j ok (by simpa using h) hlt
theorem zca : ∀ (l : List Oper) (i0 : Nat), z55 ops clo l i0 = true → ∀ (j : Nat) (oi : Oper), l[j]? = some oi →
    (∀ e ∈ oi.after, Region.binds .any e = true → e.on < i0 + j) ∧ (∀ d, oi.dst = some d → d < 10000) ∧ orderAt ops clo (i0 + j) oi ops.toList 0 = true
  | [], i0, _, j, ok, h => by simp at h
  | o :: l, i0, ho, 0, oi, h => by
    simp at h; subst h
    simp only [z55, Bool.and_eq_true] at ho
    obtain ⟨⟨⟨h1, h2⟩, h3⟩, _⟩ := ho
    refine ⟨fun e he hb => ?_, fun d hd => by rw [hd] at h2; simpa using h2, h3⟩
    have := (Array.all_eq_true_iff_forall_mem.1 h1) e he
    simpa [hb] using this
  | o :: l, i0, ho, j + 1, oi, h => by
    simp only [z55, Bool.and_eq_true] at ho
    have e : i0 + (j + 1) = i0 + 1 + j := by omega
    rw [e]
    exact zca l (i0 + 1) ho.2 j oi (by simpa using h)
end
end Go.PR

end

section
namespace Go.PR
open Go
section
variable {P : Program} {X : Ctx} {F : Nat → Prop} {w0 w w' : World} {M0 : Entry} {M : Nat → Prop} {mu mu' : Nat → Option Loc} {a : Act} {st st1 : St} {ops : Array Oper} {clo : List Nat}
def InvD (X : Ctx) (F : Nat → Prop) (w0 : World) (M0 : Entry) (df : List Deferred) (ops : Array Oper) (L : List Nat) (st : St) (a : Act) (w : World) : Prop :=
  a.defers = df ∧ ∃ M mu, SR X.glob F w0 M0 w M mu a.tmps st ∧ ∀ j ∈ L, ∀ o, ops[j]? = some o → makes o.op = true → ∀ id, nset o.dst id = true → mu id = none
theorem zoy (hX : XOK P X) {cl : FuncId → List D → List Row → Option Ret} (hcl : ∀ f args prows r, cl f args prows = some r → Sound P X f args prows r) {df : List Deferred} {i : Nat} {o : Oper} (ho : ops[i]? = some o) (hlt : ∀ d, o.dst = some d → d < 10000) {L L' : List Nat} (hi : i ∈ L) (hsub : ∀ j ∈ L', j ∈ L)
    (hdis : ∀ j ∈ L', ∀ o', ops[j]? = some o' → makes o'.op = true → makes o.op = true → ∀ r, nset o.dst r = true → nset o'.dst r = true → False) (h : InvD X F w0 M0 df ops L st a w) {s : St} (hs : stepD X cl ops clo i o st = some s)
    {Q : Exit → Act → World → Prop} {K : Act → World → Prop} (hK : ∀ a w, InvD X F w0 M0 df ops L' s a w → K a w) : wpOp P ops Q i K a w := by
  obtain ⟨rfl, M, mu, h, hun⟩ := h
  unfold stepD at hs
  dsimp only at hs
  have hl0 := h.look (o.looksAt ops) (rows := fun _ => none) zki
  have hl1 := h.look (o.looksAt ops) (rows := mask (maskP clo i ops.toList 0) st.rows) (fun _ _ h => zk1 h)
  have hww := ze6 hl0 ops o
  unfold wpOp
  rw [ho]
  split at hs
  · rename_i e
    cases hs
    simp only [hww.2 e, Bool.false_eq_true, if_false]
    exact hK _ _ ⟨zf _ _ _, M, mu, und_put h _, fun j hj => hun j (hsub j hj)⟩
  · cases hs
  · rename_i e
    simp only [hww.1 e, if_true]
    refine .inl ?_
    have quiet : ∀ {d : D}, (∃ v, (execOp a.eval o).run P w = .ok (.value v) w ∧ Rep w M mu d v) → st.setD o.dst d = s → o.wp P a w K Q := by
      rintro d ⟨v, h1, h2⟩ rfl
      unfold Oper.wp
      rw [h1]
      exact hK _ _ ⟨zf _ _ _, M, mu, h.setDst h2 _, fun j hj => hun j (hsub j hj)⟩
    have turned : makes o.op = true → ∀ {rows : Nat → Option Row} {d : D}, ({ st with rows := rows } : St).setD o.dst d = s → ∀ v w' M' mu', SR X.glob F w0 M0 w' M' mu' a.tmps { st with rows := rows } → Rep w' M' mu' d v → (∀ r, nset o.dst r = false → mu' r = mu r) → K (a.put o.dst v) w' := by
      rintro hm rows d rfl v w' M' mu' k1 k2 k3
      refine hK _ _ ⟨zf _ _ _, M', mu', k1.setDst k2 _, fun j hj o' ho' hm' id hid => ?_⟩
      rw [k3 id (by
        cases e : nset o.dst id with
        | false => rfl
        | true => exact (hdis j hj o' ho' hm' hm id e hid).elim)]
      exact hun j (hsub j hj) o' ho' hm' id hid
    split at hs
    · obtain ⟨d, hd, hs'⟩ := Option.map_eq_some_iff.1 hs
      exact quiet (z8r hX hl0 hd) hs'
    · obtain ⟨d, hd, hs'⟩ := Option.map_eq_some_iff.1 hs
      exact quiet (z8r hX hl1 hd) hs'
    · rename_i hc
      obtain ⟨p, hp, hs'⟩ := Option.map_eq_some_iff.1 hs
      have hm : makes o.op = true := by simp [makes, hc]
      exact zkd hX hcl h hl1 hlt (hun i hi o ho hm) hp (turned hm hs')
    · rename_i hc
      obtain ⟨p, hp, hs'⟩ := Option.map_eq_some_iff.1 hs
      have hm : makes o.op = true := by simp [makes, hc]
      exact zpf hX h hl0 hlt (hun i hi o ho hm) hp (turned hm hs')
    · cases hs
theorem zdr {L : List Nat} {i : Nat} (h : i ∈ L) : ∃ L1 L2, L = L1 ++ i :: L2 := List.append_of_mem h
theorem zde {L1 L2 : List Nat} {i : Nat} (h : (L1 ++ i :: L2).Pairwise (· < ·)) : (∀ k ∈ L1, k < i) ∧ (L1 ++ L2).Pairwise (· < ·) ∧ i ∉ L1 ++ L2 := by
  rw [List.pairwise_append] at h
  obtain ⟨h1, h2, h3⟩ := h
  rw [List.pairwise_cons] at h2
  refine ⟨fun k hk => h3 k hk i (by simp), ?_, fun hm => ?_⟩
  · rw [List.pairwise_append]
    exact ⟨h1, h2.2, fun a ha b hb => h3 a ha b (by simp [hb])⟩
  · rcases List.mem_append.1 hm with hm | hm
    · have := h3 i hm i (by simp); omega
    · have := h2.1 i hm; omega
theorem anyD (hX : XOK P X) {cl : FuncId → List D → List Row → Option Ret} (hcl : ∀ f args prows r, cl f args prows = some r → Sound P X f args prows r) {df : List Deferred} (hok : orderOK ops = true) {Q : Exit → Act → World → Prop} {st' : St} (hQ : ∀ a w, InvD X F w0 M0 df ops [] st' a w → Q .normal a w) :
    ∀ (fuel : Nat) (L : List Nat) (listed : Array Bool) (st : St) (a : Act) (w : World), L.length = fuel → L.Pairwise (· < ·) → (∀ j ∈ L, j < ops.size) → listed.size = ops.size → (∀ j, j < ops.size → (listed.getD j true = false ↔ j ∈ L)) →
      Down ops (fun j => listed.getD j false = true) → InvD X F w0 M0 df ops L st a w → runL (stepI X cl ops (closL ops.toList [])) L st = some st' → wpAny P .any ops Q fuel listed a w := by
  have hall := fun j oi h => zca ops.toList 0 hok j oi h
  intro fuel
  induction fuel with
  | zero =>
    intro L listed st a w hlen hp hlt hsz hL hdown hinv hrun
    have : L = [] := List.eq_nil_of_length_eq_zero hlen
    subst this
    simp only [runL] at hrun
    cases hrun
    refine ⟨?_, hQ _ _ hinv⟩
    cases e : Region.ready .any ops listed with
    | nil => rfl
    | cons i is =>
      have hi : i ∈ Region.ready .any ops listed := by rw [e]; simp
      obtain ⟨h0, o, ho, _⟩ := mem_ready.1 hi
      have := (hL i (Array.getElem?_eq_some_iff.1 ho).1).1 h0
      simp at this
  | succ fuel ih =>
    intro L listed st a w hlen hp hlt hsz hL hdown hinv hrun
    refine ⟨fun hnil => ?_, fun i hi => ?_⟩
    · -- the first of what is left is ready
      exfalso
      cases L with
      | nil => simp at hlen
      | cons i L' =>
        have hi := hlt i (by simp)
        have : i ∈ Region.ready .any ops listed := by
          refine mem_ready.2 ⟨(hL i hi).2 (by simp), ops[i], Array.getElem?_eq_getElem hi, fun e he hb => ?_⟩
          have h1 := (hall i ops[i] (by rw [Array.getElem?_toList]; exact Array.getElem?_eq_getElem hi)).1 e he hb
          rw [Nat.zero_add] at h1
          have hsz' : e.on < ops.size := by omega
          have hn : ¬ listed.getD e.on true = false := fun hf => by
            have := (hL e.on hsz').1 hf
            rcases List.mem_cons.1 this with h2 | h2
            · omega
            · have := (List.pairwise_cons.1 hp).1 _ h2; omega
          have hin : e.on < listed.size := by omega
          simp [Array.getD, hin] at hn ⊢
          exact hn
        rw [hnil] at this
        cases this
    · obtain ⟨h0, o, ho, hpre⟩ := mem_ready.1 hi
      have hisz := (Array.getElem?_eq_some_iff.1 ho).1
      have hiL := (hL i hisz).1 h0
      obtain ⟨L1, L2, rfl⟩ := zdr hiL
      obtain ⟨hlow, hp', hnot⟩ := zde hp
      have hoL : ops.toList[i]? = some o := by rw [Array.getElem?_toList]; exact ho
      obtain ⟨_, hd10, hat⟩ := hall i o hoL
      rw [Nat.zero_add] at hat
      have unl : ∀ k, k ∈ L1 ++ i :: L2 → ¬ listed.getD k false = true := fun k hk hf => by
        have h1 := (hL k (hlt k hk)).2 hk
        have hin : k < listed.size := by have := hlt k hk; omega
        simp [Array.getD, hin] at h1 hf
        rw [h1] at hf; cases hf
      have notw : ∀ k ∈ L1, ((closL ops.toList []).getD i 0).testBit k = false := fun k hk => by
        cases e : ((closL ops.toList []).getD i 0).testBit k with
        | false => rfl
        | true =>
          exfalso
          refine unl k (by simp [hk]) ?_
          refine z7e (S := fun j => listed.getD j false = true) hdown ops.toList [] (fun j => by simp) (fun j k h => by simp at h) i k e ?_
          intro o' ho' e' he' hb'
          rw [ho] at ho'
          cases ho'
          exact hpre e' he' hb'
      have comm : ∀ k ∈ L1, ∀ a b c, stepI X cl ops (closL ops.toList []) k a = some b → stepI X cl ops (closL ops.toList []) i b = some c → ∃ s, stepI X cl ops (closL ops.toList []) i a = some s ∧ stepI X cl ops (closL ops.toList []) k s = some c := by
        intro k hk a b c h1 h2
        have hkL : k ∈ L1 ++ i :: L2 := by simp [hk]
        have hks := hlt k hkL
        have hok' : ops[k]? = some ops[k] := Array.getElem?_eq_getElem hks
        generalize ops[k] = ok at hok'
        have hokL : ops.toList[k]? = some ok := by rw [Array.getElem?_toList]; exact hok'
        have hki := hlow k hk
        obtain ⟨hw, hdst⟩ := z6a ops.toList 0 hat k ok hokL (by omega)
        rw [Nat.zero_add] at hw
        rw [notw k hk] at hw
        have hcm : commOK ops ok o = true := by simpa using hw
        simp only [stepI, hok', ho] at h1 h2 ⊢
        simp only [commOK, Bool.and_eq_true] at hcm
        refine zox hcm.1 ?_ ?_ ?_ ?_ h1 h2
        · have := hcm.2
          cases e1 : cls ok.op <;> cases e2 : cls o.op <;> simp [e1, e2] at this ⊢
        · intro m r hr
          exact z8e ops.toList 0 hokL (by omega) (.inr (by rw [Nat.zero_add]; exact notw k hk)) m hr
        · intro m r hr
          exact z8e ops.toList 0 hoL (by omega) (.inl (by omega)) m hr
        · intro m1 m2 r r1 r2
          obtain ⟨e1, t, e2⟩ := z8m r1 r2; exact hdst m1 m2 t e2 (e1 ▸ e2)
      obtain ⟨s, hs1, hs2⟩ := zco L1 comm hrun
      simp only [stepI, ho] at hs1
      refine zoy hX hcl ho hd10 (L' := L1 ++ L2) (by simp) (fun j hj => by rcases List.mem_append.1 hj with h | h <;> simp [h]) ?_ hinv hs1 ?_
      · intro j hj o' ho' m' m r r1 r2
        have hjs := (Array.getElem?_eq_some_iff.1 ho').1
        have ho'L : ops.toList[j]? = some o' := by rw [Array.getElem?_toList]; exact ho'
        have hne : j ≠ i := fun e => hnot (e ▸ hj)
        rcases Nat.lt_or_ge j i with hlt' | hge
        · obtain ⟨e1, t, e2⟩ := z8m r2 r1; exact (z6a ops.toList 0 hat j o' ho'L (by omega)).2 m' m t e2 (e1 ▸ e2)
        · have hat' := (hall j o' ho'L).2.2
          rw [Nat.zero_add] at hat'
          obtain ⟨e1, t, e2⟩ := z8m r1 r2; exact (z6a ops.toList 0 hat' i o hoL (by omega)).2 m m' t e2 (e1 ▸ e2)
      · intro a' w' hinv'
        refine ih (L1 ++ L2) _ s a' w' (by simp at hlen ⊢; omega) hp' (fun j hj => hlt j (by rcases List.mem_append.1 hj with h | h <;> simp [h])) (by simpa using hsz) ?_ ?_ hinv' hs2
        · intro j hj
          by_cases e : i = j
          · subst e
            constructor
            · intro hf
              have : i < listed.size := by omega
              simp [Array.getD, this] at hf
            · intro hm; exact (hnot hm).elim
          · rw [getD_set_ne true e, hL j hj]
            simp [Ne.symm e]
        · intro j oj hj hoj e he hb
          by_cases e' : i = j
          · subst e'
            rw [ho] at hoj
            cases hoj
            exact getD_set_true (hpre e he hb)
          · rw [getD_set_ne false e'] at hj
            exact getD_set_true (hdown j oj hj hoj e he hb)
theorem SR.bindCell (h : SR X.glob F w0 M0 w M mu a.tmps st) (d : D) : ∃ mu', SR X.glob F w0 M0 w M mu' a.tmps (bindCell d st) := by
  unfold Go.PR.bindCell
  split
  case h_2 => exact ⟨mu, h⟩
  rename_i r off
  split
  case h_2 => exact ⟨mu, h⟩
  split
  case h_4 => exact ⟨mu, h⟩
  all_goals
    split
    case isFalse => exact ⟨mu, h⟩
    rename_i hc
    simp only [Bool.and_eq_true, bne_iff_ne] at hc
    refine h.move hc.2 fun hh => ?_
    have := hh.2
    unfold home XB at this
    omega
theorem z39 {df : List Deferred} : ∀ (l : List Oper) {st : St} {a : Act} {w : World}, After X F w0 M0 df st a w → After X F w0 M0 df (bindEnd X l st) a w
  | [], st, a, w, h => h
  | o :: l, st, a, w, h => by
    unfold bindEnd
    split
    · split
      · rename_i x t hop hdst ht
        obtain ⟨hd, M, mu, hs⟩ := h
        have hp : ¬ Pinned t := fun hh => absurd (Nat.lt_of_lt_of_le ht (by decide : 1000 ≤ PB)) (Nat.not_lt.2 hh.1)
        obtain ⟨mu', h2⟩ := hs.bindAt (nkAt X o) t t hp
        exact z39 l ⟨hd, M, mu', h2⟩
      · exact z39 l h
    · rename_i t ad x hop hdst
      obtain ⟨hd, M, mu, hs⟩ := h
      obtain ⟨mu', h2⟩ := hs.bindCell (ev X st ad)
      exact z39 l ⟨hd, M, mu', h2⟩
    · rename_i hop
      obtain ⟨hd, M, mu, hs⟩ := h
      generalize hds : List.map (ev X st) _ = ds
      obtain ⟨mu', h2⟩ := SR.bindRows ds hs
      exact z39 l ⟨hd, M, mu', h2⟩
    · exact z39 l h
theorem allP_of : ∀ {l : List Oper} {r : Nat}, allP l r = true → ∃ d, nset d r = true
  | [], r, h => by simp [allP] at h
  | o :: l, r, h => by
    simp only [allP, Bool.or_eq_true, Bool.and_eq_true] at h
    rcases h with h | h
    · exact ⟨_, h.2⟩
    · exact allP_of h
theorem z9l : ∀ {l : List Oper} {j : Nat} {o : Oper} {r : Nat}, l[j]? = some o → makes o.op = true → nset o.dst r = true → allP l r = true
  | [], j, o, r, h, _, _ => by simp at h
  | o' :: l, 0, o, r, h, hm, hn => by simp at h; subst h; simp [allP, hm, hn]
  | o' :: l, j + 1, o, r, h, hm, hn => by
    simp only [allP, Bool.or_eq_true]
    exact .inr (z9l (by simpa using h) hm hn)
theorem zfh (hX : XOK P X) {cl : FuncId → List D → List Row → Option Ret} (hcl : ∀ f args prows r, cl f args prows = some r → Sound P X f args prows r) {df : List Deferred} {id : Nat} {Q : Exit → Act → World → Prop} {st' : St} (h : After X F w0 M0 df st a w) (hs : drawO X cl ops st = some st') (hQ : ∀ a w, After X F w0 M0 df st' a w → Q .normal a w) :
    (Code.region id ops true).wp P Q a w := by
  obtain ⟨hd, M, mu, h⟩ := h
  unfold drawO at hs
  split at hs
  case isFalse => cases hs
  rename_i hok
  obtain ⟨s, hs1, rfl⟩ := Option.map_eq_some_iff.1 hs
  have h1 := (h.world (w' := { w with drawn := w.drawn + 1 }) ⟨rfl, rfl, rfl, Nat.le_refl _, fun _ _ _ => rfl⟩).dropP (allP ops.toList) (fun i hi => by
    cases e : allP ops.toList i with
    | false => rfl
    | true => obtain ⟨d, hd⟩ := allP_of e; exact (zkk hd hi).elim)
  rw [ze0 ops.toList 0 _ (fun j => by simp)] at hs1
  refine wp_region_any hX.mixed ?_
  refine anyD hX hcl hok (st' := s) (fun a w hi => hQ a w (z39 _ (by obtain ⟨hd, M, mu, hs, _⟩ := hi; exact ⟨hd, M, mu, hs⟩))) ops.size (List.range' 0 ops.toList.length) _ _ a _ (by simp) ?_ ?_ (by simp) ?_ ?_ ⟨hd, M, _, h1, ?_⟩ hs1
  · exact List.pairwise_lt_range' 
  · intro j hj
    simp [List.mem_range'] at hj
    omega
  · intro j hj
    simp [hj, List.mem_range']
  · intro j o hj ho e he hb
    have hlt := (Array.getElem?_eq_some_iff.1 ho).1
    simp [hlt] at hj
  · intro j hj o ho hm r hr
    rw [z9l (l := ops.toList) (by rw [Array.getElem?_toList]; exact ho) hm hr]
    rfl
end
end Go.PR

end
