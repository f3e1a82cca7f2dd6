/- Regions with calls that turn rows of ours: what the evaluator says holds of the model. -/
import Derived.Test.YtmjbhacjgjihpaaDoorFwN4
import Derived.LoopN
set_option linter.unusedVariables false
set_option linter.unusedSimpArgs false
set_option linter.unusedSectionVars false
section
namespace Go.PR
open Go
def killAll : List Nat → D → D
  | [], d => d
  | i :: is, d => killAll is (d.ren (killF i))
theorem z4i (f : Nat → Option Nat) : ∀ (ds : List D), D.renL f ds = ds.map (·.ren f)
  | [] => by simp only [D.renL, List.map]
  | d :: ds => by simp only [D.renL, List.map, z4i f ds]
theorem z5h : ∀ (is : List Nat) (st : St), (dropAll is st).env = st.env.map (killAll is)
  | [], st => by simp [dropAll, killAll]
  | i :: is, st => by
    have e : (st.drop i).env = st.env.map (·.ren (killF i)) := z4i _ _
    rw [dropAll, z5h is, e, List.map_map]
    rfl
def rowKill : List Nat → Row → Row
  | [], r => r
  | i :: is, r => rowKill is (r.ren (killF i))
theorem z46 : ∀ (is : List Nat) (st : St) (r : Nat), r ∉ is → (dropAll is st).rows r = (st.rows r).map (rowKill is)
  | [], st, r, _ => by
    have : (rowKill []) = id := by funext x; rfl
    simp [dropAll, this]
  | i :: is, st, r, h => by
    simp only [List.mem_cons, not_or] at h
    rw [dropAll, z46 is _ r h.2]
    have e : (st.drop i).rows r = (st.rows r).map (·.ren (killF i)) := by simp only [St.drop, if_neg h.1]
    rw [e, Option.map_map]
    rfl
theorem z5i : ∀ (is : List Nat) (st : St) (env : List D), (dropAll is ⟨env, st.rows⟩).rows = (dropAll is st).rows
  | [], st, env => rfl
  | i :: is, st, env => by
    have e : (⟨env, st.rows⟩ : St).drop i = ⟨D.renL (killF i) env, (st.drop i).rows⟩ := rfl
    rw [dropAll, dropAll, e]
    exact z5i is (st.drop i) _
theorem zbk : ∀ (is : List Nat), killAll is .any = .any
  | [] => rfl
  | i :: is => by simp only [killAll, D.ren]; exact zbk is
theorem zbl (v : Value) : ∀ (is : List Nat), killAll is (cst v) = cst v
  | [] => rfl
  | i :: is => by
    have : (cst v).ren (killF i) = cst v := by unfold cst; split <;> simp only [D.ren]
    simp only [killAll, this]
    exact zbl v is
theorem zbj : ∀ (is : List Nat) (cs : List D), killAll is (.agg cs) = .agg (cs.map (killAll is))
  | [], cs => by simp [killAll]
  | i :: is, cs => by
    simp only [killAll, D.ren, zbj is, z4i, List.map_map]
    rfl
theorem z34 : ∀ (is : List Nat) (w : Bool) (cs : List D), rowKill is ⟨w, .var cs⟩ = ⟨w, .var (cs.map (killAll is))⟩
  | [], w, cs => by simp [rowKill, killAll]
  | i :: is, w, cs => by
    simp only [rowKill, Row.ren, Cont.ren, z34 is, z4i, List.map_map]
    rfl
theorem z31 : ∀ (is : List Nat) (w : Bool) (kk : MK) (vk : MV) (es : List MEnt), rowKill is ⟨w, .mp kk vk es⟩ = ⟨w, .mp kk vk es⟩
  | [], _, _, _, _ => rfl
  | _ :: is, w, kk, vk, es => by
    simp only [rowKill, Row.ren, Cont.ren]
    exact z31 is w kk vk es
theorem z32 : ∀ (is : List Nat) (w : Bool) (k : IntKind) (xss : List (List Int)), rowKill is ⟨w, .nest k xss⟩ = ⟨w, .nest k xss⟩
  | [], _, _, _ => rfl
  | _ :: is, w, k, xss => by
    simp only [rowKill, Row.ren, Cont.ren]
    exact z32 is w k xss
theorem z33 : ∀ (is : List Nat) (w : Bool) (sh : List FK) (ps : List Rcd), rowKill is ⟨w, .recs sh ps⟩ = ⟨w, .recs sh ps⟩
  | [], _, _, _ => rfl
  | _ :: is, w, sh, ps => by
    simp only [rowKill, Row.ren, Cont.ren]
    exact z33 is w sh ps
theorem z4y : ∀ (sh : List FK) (p : Rcd), D.refsL (cellsOf sh p) = []
  | [], _ => rfl
  | .int k :: fs, p => by simp only [cellsOf, D.refsL, D.refs, z4y fs, List.append_nil]
  | .bool :: fs, p => by simp only [cellsOf, D.refsL, D.refs, z4y fs, List.append_nil]
  | .ints k :: fs, p => by simp only [cellsOf, D.refsL, D.refs, z4y fs, List.append_nil]
  | .ints2 k :: fs, p => by simp only [cellsOf, D.refsL, D.refs, z4y fs, List.append_nil]
theorem zck : ∀ (n : Nat) (ds : List D), D.refsL ds = [] → D.refsL (ds.drop n) = []
  | 0, ds, h => by simpa using h
  | _ + 1, [], _ => rfl
  | n + 1, d :: ds, h => by
    simp only [D.refsL, List.append_eq_nil_iff] at h
    exact zck n ds h.2
theorem z20 : ∀ (is : List Nat) (w : Bool) (c : Cont), c.isVar = false → rowKill is ⟨w, c⟩ = ⟨w, c⟩
  | [], w, c, _ => rfl
  | i :: is, w, c, h => by
    have e : (⟨w, c⟩ : Row).ren (killF i) = ⟨w, c⟩ := by cases c <;> first | rfl | cases h
    simp only [rowKill, e]
    exact z20 is w c h
theorem zjv (i : TI) (is : List Nat) (cs : List D) : loadL i (cs.map (killAll is)) = (loadL i cs).map (killAll is) := by
  unfold loadL
  split
  · rw [List.length_map]
    split
    · simp [zbj, List.map_take]
    · rfl
  · split
    · simp
    · rfl
mutual
theorem D.ren_self {f : Nat → Option Nat} : ∀ (d : D), (∀ r ∈ d.refs, f r = some r) → d.ren f = d
  | .any, _ => by simp only [D.ren] | .und, _ => by simp only [D.ren] | .nil _, _ => by simp only [D.ren] | .bool _, _ => by simp only [D.ren] | .int _ _, _ => by simp only [D.ren] | .str _, _ => by simp only [D.ren]
  | .immI _ _, _ => by simp only [D.ren] | .immB _, _ => by simp only [D.ren] | .imm2 _ _, _ => by simp only [D.ren] | .immG _, _ => by simp only [D.ren] | .immR _ _, _ => by simp only [D.ren] | .pim _, _ => by simp only [D.ren]
  | .fn g cap, h => by simp only [D.refs] at h; simp only [D.ren, D.renL_self cap h]
  | .ptr r o, h => by simp only [D.refs, List.mem_singleton, forall_eq] at h; simp only [D.ren, h]
  | .pel r o, h => by simp only [D.refs, List.mem_singleton, forall_eq] at h; simp only [D.ren, h]
  | .mpr r, h => by simp only [D.refs, List.mem_singleton, forall_eq] at h; simp only [D.ren, h]
  | .nsl r _, h => by simp only [D.refs, List.mem_singleton, forall_eq] at h; simp only [D.ren, h]
  | .nel r _ _, h => by simp only [D.refs, List.mem_singleton, forall_eq] at h; simp only [D.ren, h]
  | .npe r _, h => by simp only [D.refs, List.mem_singleton, forall_eq] at h; simp only [D.ren, h]
  | .nep r _ _, h => by simp only [D.refs, List.mem_singleton, forall_eq] at h; simp only [D.ren, h]
  | .rcs r _ _, h => by simp only [D.refs, List.mem_singleton, forall_eq] at h; simp only [D.ren, h]
  | .rpe r _ _ _, h => by simp only [D.refs, List.mem_singleton, forall_eq] at h; simp only [D.ren, h]
  | .rsl r o n, h => by simp only [D.refs, List.mem_singleton, forall_eq] at h; simp only [D.ren, h]
  | .agg cs, h => by simp only [D.refs] at h; simp only [D.ren, D.renL_self cs h]
  | .tup cs, h => by simp only [D.refs] at h; simp only [D.ren, D.renL_self cs h]
theorem D.renL_self {f : Nat → Option Nat} : ∀ (ds : List D), (∀ r ∈ D.refsL ds, f r = some r) → D.renL f ds = ds
  | [], _ => by simp only [D.renL]
  | d :: ds, h => by
    simp only [D.refsL, List.mem_append] at h
    simp only [D.renL, D.ren_self d (fun r hr => h r (.inl hr)), D.renL_self ds (fun r hr => h r (.inr hr))]
end
theorem zk : ∀ (is : List Nat) (d : D), (∀ r ∈ d.refs, r ∉ is) → killAll is d = d
  | [], d, _ => rfl
  | i :: is, d, h => by
    have e : d.ren (killF i) = d := D.ren_self d fun r hr => by
      have := h r hr
      simp only [List.mem_cons, not_or] at this
      simp only [killF, if_neg this.1]
    simp only [killAll, e]
    exact zk is d fun r hr => by have := h r hr; simp only [List.mem_cons, not_or] at this; exact this.2
mutual
theorem D.ren_solid {i : Nat} : ∀ (d : D), (d.ren (killF i)).solid = true → d.ren (killF i) = d
  | .any, _ => by simp only [D.ren] | .und, _ => by simp only [D.ren] | .nil _, _ => by simp only [D.ren] | .bool _, _ => by simp only [D.ren] | .int _ _, _ => by simp only [D.ren] | .str _, _ => by simp only [D.ren]
  | .immI _ _, _ => by simp only [D.ren] | .immB _, _ => by simp only [D.ren] | .imm2 _ _, _ => by simp only [D.ren] | .immG _, _ => by simp only [D.ren] | .immR _ _, _ => by simp only [D.ren] | .pim _, _ => by simp only [D.ren]
  | .fn g cap, h => by simp only [D.ren, D.solid] at h; simp only [D.ren, D.renL_solid cap h]
  | .ptr r o, h => by
    by_cases e : r = i
    · simp only [D.ren, killF, if_pos e, D.solid] at h; cases h
    · simp only [D.ren, killF, if_neg e]
  | .pel r o, h => by
    by_cases e : r = i
    · simp only [D.ren, killF, if_pos e, D.solid] at h; cases h
    · simp only [D.ren, killF, if_neg e]
  | .mpr r, h => by
    by_cases e : r = i
    · simp only [D.ren, killF, if_pos e, D.solid] at h; cases h
    · simp only [D.ren, killF, if_neg e]
  | .nsl r _, h => by
    by_cases e : r = i
    · simp only [D.ren, killF, if_pos e, D.solid] at h; cases h
    · simp only [D.ren, killF, if_neg e]
  | .nel r _ _, h => by
    by_cases e : r = i
    · simp only [D.ren, killF, if_pos e, D.solid] at h; cases h
    · simp only [D.ren, killF, if_neg e]
  | .npe r _, h => by
    by_cases e : r = i
    · simp only [D.ren, killF, if_pos e, D.solid] at h; cases h
    · simp only [D.ren, killF, if_neg e]
  | .nep r _ _, h => by
    by_cases e : r = i
    · simp only [D.ren, killF, if_pos e, D.solid] at h; cases h
    · simp only [D.ren, killF, if_neg e]
  | .rcs r _ _, h => by
    by_cases e : r = i
    · simp only [D.ren, killF, if_pos e, D.solid] at h; cases h
    · simp only [D.ren, killF, if_neg e]
  | .rpe r _ _ _, h => by
    by_cases e : r = i
    · simp only [D.ren, killF, if_pos e, D.solid] at h; cases h
    · simp only [D.ren, killF, if_neg e]
  | .rsl r o n, h => by
    by_cases e : r = i
    · simp only [D.ren, killF, if_pos e, D.solid] at h; cases h
    · simp only [D.ren, killF, if_neg e]
  | .agg cs, h => by simp only [D.ren, D.solid] at h; simp only [D.ren, D.renL_solid cs h]
  | .tup cs, h => by simp only [D.ren, D.solid] at h; simp only [D.ren, D.renL_solid cs h]
theorem D.renL_solid {i : Nat} : ∀ (ds : List D), D.solidL (D.renL (killF i) ds) = true → D.renL (killF i) ds = ds
  | [], _ => by simp only [D.renL]
  | d :: ds, h => by
    simp only [D.renL, D.solidL, Bool.and_eq_true] at h
    simp only [D.renL, D.ren_solid d h.1, D.renL_solid ds h.2]
end
theorem z7z : ∀ (is : List Nat) (d : D), (killAll is d).solid = true → killAll is d = d
  | [], d, _ => rfl
  | i :: is, d, h => by
    simp only [killAll] at h ⊢
    have e := z7z is _ h
    rw [e] at h ⊢
    exact D.ren_solid d h
theorem z1e : ∀ {ds : List D} {d : D}, d ∈ ds → ∀ r ∈ d.refs, r ∈ D.refsL ds
  | d' :: ds, d, h, r, hr => by
    simp only [D.refsL, List.mem_append]
    rcases List.mem_cons.1 h with e | h
    · subst e; exact .inl hr
    · exact .inr (z1e h r hr)
theorem z8t : ∀ {ds ds' : List D}, (∀ d ∈ ds, d ∈ ds') → ∀ r ∈ D.refsL ds, r ∈ D.refsL ds'
  | [], ds', h, r, hr => by simp [D.refsL] at hr
  | d :: ds, ds', h, r, hr => by
    simp only [D.refsL, List.mem_append] at hr
    rcases hr with hr | hr
    · exact z1e (h d (by simp)) r hr
    · exact z8t (fun d' hd' => h d' (by simp [hd'])) r hr
section
variable {P : Program} {X : Ctx} {cl : FuncId → List D → List Row → Option Ret} {F : Nat → Prop} {w0 w w' : World} {M0 : Entry} {M : Nat → Prop} {mu mu' : Nat → Option Loc} {a : Act} {st st1 : St} {ops : Array Oper} {clo : List Nat}
theorem zg8 {ids : List Nat} {r : Nat} (h : r ∉ ids) : idx ids r = none := by
  unfold idx
  rw [List.findIdx?_eq_none_iff]
  intro x hx
  have : x ≠ r := fun e => h (e ▸ hx)
  simpa using this
theorem zg3 {ids : List Nat} {r : Ret} {q : Nat} (h : q ∈ gone ids r) : q ∈ ids := by
  unfold gone at h
  rw [List.mem_filterMap] at h
  obtain ⟨⟨i, j⟩, h1, h2⟩ := h
  have e : i = q := by
    revert h2
    simp only
    split <;> intro h2 <;> cases h2
    rfl
  subst e
  obtain ⟨k, hk⟩ := List.mem_iff_getElem?.1 h1
  rw [List.getElem?_zipIdx] at hk
  obtain ⟨x, hx, e⟩ := Option.map_eq_some_iff.1 hk
  cases e
  exact List.mem_of_getElem? hx
theorem out_not {dst n r : Nat} (hn : n ≤ 40) (h : r ∉ (List.range 40).map (xid dst)) : r ∉ outIds dst n := fun hm => by
  obtain ⟨j, hj, e⟩ := List.mem_map.1 hm
  exact h (List.mem_map.2 ⟨j, List.mem_range.2 (by have := List.mem_range.1 hj; omega), e⟩)
theorem z9s {ids : List Nat} {dst q : Nat} {r : Ret} {rows : Nat → Option Row} (h1 : q ∉ ids) (h2 : q ∉ outIds dst r.out.length) : zx ids dst r rows q = rows q := by
  unfold zx
  have : (List.range r.out.length).find? (fun j => xid dst j == q) = none := by
    rw [List.find?_eq_none]
    intro j hj e
    exact h2 (List.mem_map.2 ⟨j, hj, by simpa using e⟩)
  rw [this, zg8 h1]
theorem zf1 {dst : Nat} {f : FuncId} {args : List D} {env : List D} {rows : Nat → Option Row} {d : D} {s : St} (h : callD X cl dst f args ⟨env, rows⟩ = some (d, s)) :
    ∃ (is : List Nat) (rows' : Nat → Option Row), (∀ env', callD X cl dst f args ⟨env', rows⟩ = some (d, ⟨env'.map (killAll is), rows'⟩)) ∧
      ∀ r, r ∉ reach rows args → r ∉ (List.range 40).map (xid dst) → r ∉ is ∧ rows' r = (rows r).map (rowKill is) := by
  unfold callD at h
  split at h
  · rename_i hby
    dsimp only at h
    generalize hids : reach rows args = ids at h
    split at h
    case h_2 => cases h
    rename_i rws hrows
    split at h
    case isFalse => cases h
    rename_i hcond
    split at h
    case h_2 => cases h
    rename_i r hcall
    split at h
    case isFalse => cases h
    rename_i hcond2
    cases h
    have hol : r.out.length ≤ 40 := by simp only [Bool.and_eq_true, decide_eq_true_eq] at hcond2; exact hcond2.1.2
    refine ⟨gone ids r ++ outIds dst r.out.length, zx ids dst r (dropAll (gone ids r ++ outIds dst r.out.length) ⟨env, rows⟩).rows, fun env' => ?_, fun q hq hn => ?_⟩
    · unfold callD
      rw [if_pos hby]
      dsimp only
      rw [hids]
      simp only [hrows, if_pos hcond, hcall, if_pos hcond2]
      have e1 := z5h (gone ids r ++ outIds dst r.out.length) ⟨env', rows⟩
      have e2 := z5i (gone ids r ++ outIds dst r.out.length) ⟨env, rows⟩ env'
      simp only at e1 e2
      rw [e1, e2]
    · have ho := out_not hol hn
      have hni : q ∉ gone ids r ++ outIds dst r.out.length := fun hm => by
        rcases List.mem_append.1 hm with hm | hm
        · exact hq (zg3 hm)
        · exact ho hm
      exact ⟨hni, by rw [z9s hq ho, z46 _ _ _ hni]⟩
  · rename_i hby
    dsimp only at h
    generalize hids : reach rows args = ids at h
    split at h
    case h_2 => cases h
    rename_i args' hargs
    split at h
    case h_2 => cases h
    rename_i r hcall
    split at h
    case isFalse => cases h
    rename_i hcond
    cases h
    have hol : r.out.length ≤ 40 := by simp only [Bool.and_eq_true, decide_eq_true_eq] at hcond; exact hcond.2
    generalize hz : (ids.isEmpty || (r.res.noImm && r.out.all fun x => x.wr && x.c.noImm)) = z
    have hs0 : ∀ env', (if z then (⟨env', rows⟩ : St) else (⟨env', rows⟩ : St).freeze ids) = ⟨env', if z then rows else ((⟨env', rows⟩ : St).freeze ids).rows⟩ := fun env' => by cases z <;> rfl
    have hfr : ∀ env', ((⟨env', rows⟩ : St).freeze ids).rows = ((⟨env, rows⟩ : St).freeze ids).rows := fun env' => rfl
    refine ⟨outIds dst r.out.length, zx [] dst r (dropAll (outIds dst r.out.length) ⟨env, if z then rows else ((⟨env, rows⟩ : St).freeze ids).rows⟩).rows, fun env' => ?_, fun q hq hn => ?_⟩
    · unfold callD
      rw [if_neg hby]
      dsimp only
      rw [hids]
      simp only [hargs, hcall, if_pos hcond, hz]
      rw [hs0 env']
      have e1 := z5h (outIds dst r.out.length) ⟨env', if z then rows else ((⟨env, rows⟩ : St).freeze ids).rows⟩
      have e2 := z5i (outIds dst r.out.length) ⟨env, if z then rows else ((⟨env, rows⟩ : St).freeze ids).rows⟩ env'
      simp only at e1 e2
      rw [hfr env', e1, e2]
    · have ho := out_not hol hn
      refine ⟨ho, ?_⟩
      rw [z9s (by simp) ho, z46 _ _ _ ho]
      congr 1
      cases z with
      | true => rfl
      | false =>
        simp only [Bool.false_eq_true, if_false, St.freeze]
        have : ids.contains q = false := by simpa using hq
        cases e : rows q with
        | none => rfl
        | some row => simp [hq]
theorem zjx {o : Oper} {t : Nat} {x : Operand} (h : t ∉ o.looksAt ops) (hx : x ∈ o.op.operands.toList) : x ≠ .tmp t := fun e => by
  subst e
  refine h ?_
  unfold Oper.looksAt
  rw [List.mem_append]
  refine .inl (List.mem_filterMap.2 ⟨_, hx, rfl⟩)
theorem ev_set {env : List D} {rows rows' : Nat → Option Row} {t : Nat} {d : D} {x : Operand} (h : x ≠ .tmp t) : ev X ⟨env.set t d, rows'⟩ x = ev X ⟨env, rows⟩ x := by
  cases x with
  | tmp s =>
    have : t ≠ s := fun e => h (by rw [e])
    simp only [ev, List.getD_eq_getElem?_getD, List.getElem?_set_ne this]
  | _ => rfl
theorem z50 (is : List Nat) (env : List D) (s : Nat) : (env.map (killAll is)).getD s .any = killAll is (env.getD s .any) := by
  rw [List.getD_eq_getElem?_getD, List.getD_eq_getElem?_getD, List.getElem?_map]
  cases env[s]? with
  | none => simp [zbk]
  | some d => simp
theorem zd4 (is : List Nat) (env : List D) (t : Nat) (d : D) : (env.set t d).map (killAll is) = (env.map (killAll is)).set t (killAll is d) := by
  rw [List.map_set]
theorem zdw {o : Oper} {t : Nat} {g : Operand} {args : Array Operand} {at_ : Array TypeId} (hg : o.guard = none) (hd : o.dst = some t) (hop : o.op = .call { callee := .value g, args := args, argTypes := at_ }) (st : St) :
    stepG X cl ops o st = match ev X st g with
      | .fn f cap => if (X.ft f).isNone then none else (callD X cl t f (args.toList.map (ev X st) ++ cap) st).map fun (r, s) => ⟨s.env.set t r, s.rows⟩
      | _ => none := by
  have hw : wanted ops st o = .yes := by unfold wanted; rw [hg]
  unfold stepG
  rw [hw]
  simp only
  unfold step
  simp only [hop, hd]
  rfl
theorem zec {id : Nat} {ei : TI} {nk : NK} {x y : D} {env : List D} {rows : Nat → Option Row} {d : D} {s : St} (h : appendD X id ei nk x y ⟨env, rows⟩ = some (d, s)) :
    ∃ (is : List Nat) (rows' : Nat → Option Row), (∀ env', appendD X id ei nk x y ⟨env', rows⟩ = some (d, ⟨env'.map (killAll is), rows'⟩)) ∧
      ∀ r, r ≠ id → (∀ r0 off n, x = .rsl r0 off n → r ≠ r0) → r ∉ is ∧ rows' r = (rows r).map (rowKill is) := by
  have hm0 : ∀ (x : Option Row), x = x.map (rowKill []) := fun x => by cases x <;> rfl
  have hk0 : ∀ (e : List D), e.map (killAll []) = e := fun e => by
    have : killAll [] = _root_.id := by funext x; rfl
    rw [this]; simp
  have hnew : ∀ (e : List D) (rw0 : Nat → Option Row) (row : Row), (⟨e, rw0⟩ : St).newRow id row = ⟨e.map (killAll [id]), fun i => if i = id then some row else ((⟨[], rw0⟩ : St).drop id).rows i⟩ := fun e rw0 row => by
    have e1 : D.renL (killF id) e = e.map (killAll [id]) := by rw [z4i]; rfl
    show (⟨D.renL (killF id) e, _⟩ : St) = _
    rw [e1]; rfl
  have hrow : ∀ (rw0 : Nat → Option Row) (row : Row) (r : Nat), r ≠ id → r ∉ [id] ∧ (fun i => if i = id then some row else ((⟨[], rw0⟩ : St).drop id).rows i) r = (rw0 r).map (rowKill [id]) := fun rw0 row r hr => by
    refine ⟨by simpa using hr, ?_⟩
    simp only [if_neg hr]
    have := z46 [id] ⟨[], rw0⟩ r (by simpa using hr)
    exact this
  unfold appendD at h
  split at h
  case isFalse => cases h
  rename_i hc
  split at h
  · cases h
  · rename_i hsrc
    split at h
    · rename_i k
      cases h
      exact ⟨[], rows, fun env' => by unfold appendD; rw [if_pos hc]; simp only at hsrc ⊢; simp only [hsrc, hk0], fun r _ _ => ⟨by simp, hm0 _⟩⟩
    · rename_i r0 off n
      cases h
      exact ⟨[], rows, fun env' => by unfold appendD; rw [if_pos hc]; simp only at hsrc ⊢; simp only [hsrc, hk0], fun r _ _ => ⟨by simp, hm0 _⟩⟩
    · cases h
  · rename_i cy hsrc
    split at h
    · split at h
      case isFalse => cases h
      rename_i hl
      cases h
      exact ⟨[id], _, fun env' => by unfold appendD; rw [if_pos hc]; simp only at hsrc ⊢; simp only [hsrc, if_pos hl]; rw [hnew], fun r hr _ => hrow rows _ r hr⟩
    · rename_i r0 off n
      split at h
      case h_2 => cases h
      rename_i cx hr0
      split at h
      case isTrue => cases h
      rename_i hv
      simp only at hr0 hsrc
      split at h
      · rename_i h1
        split at h
        case isFalse => cases h
        rename_i h2
        split at h
        case h_2 => cases h
        rename_i c0 h3
        obtain ⟨c, h4, h5⟩ := Option.map_eq_some_iff.1 h
        cases h5
        refine ⟨[id], fun i => if i = id then some ⟨true, c⟩ else ((⟨[], fun i => if i = r0 then none else rows i⟩ : St).drop id).rows i, fun env' => ?_, fun r hr hx0 => ?_⟩
        · unfold appendD
          rw [if_pos hc]
          simp only [hsrc, hr0, if_neg hv, if_pos h1, if_pos h2, h3, h4, Option.map_some]
          have : (⟨env', rows⟩ : St).forget r0 = ⟨env', fun i => if i = r0 then none else rows i⟩ := rfl
          rw [this, hnew]
        · have h6 := hrow (fun i => if i = r0 then none else rows i) ⟨true, c⟩ r hr
          simp only [if_neg (hx0 r0 off n rfl)] at h6
          exact h6
      · rename_i h1
        split at h
        case isFalse => cases h
        rename_i h2
        obtain ⟨c, h4, h5⟩ := Option.map_eq_some_iff.1 h
        cases h5
        refine ⟨[], (fun i => if i = r0 then some ⟨true, c⟩ else rows i), fun env' => ?_, fun r hr hx0 => ?_⟩
        · unfold appendD
          rw [if_pos hc]
          simp only [hsrc, hr0, if_neg hv, if_neg h1, if_pos h2, h4, Option.map_some, hk0]
          rfl
        · simp only [if_neg (hx0 r0 off n rfl)]
          exact ⟨by simp, hm0 _⟩
    · cases h
theorem z4h {l : List Nat} {x : Nat} : x ∈ dedup l ↔ x ∈ l := by
  have key : ∀ (l acc : List Nat), x ∈ l.foldl (fun acc y => if acc.contains y then acc else acc ++ [y]) acc ↔ x ∈ acc ∨ x ∈ l := by
    intro l
    induction l with
    | nil => intro acc; simp
    | cons a l ih =>
      intro acc
      simp only [List.foldl_cons]
      rw [ih]
      split
      · rename_i hc
        have hc' : a ∈ acc := by simpa using hc
        constructor
        · rintro (h | h)
          · exact .inl h
          · exact .inr (by simp [h])
        · rintro (h | h)
          · exact .inl h
          · rcases List.mem_cons.1 h with rfl | h
            · exact .inl hc'
            · exact .inr h
      · rw [List.mem_append, List.mem_singleton, List.mem_cons, or_assoc]
  have := key l []
  simpa [dedup] using this
theorem z6d {R : Nat → Option Row} {ids : List Nat} {i : Nat} (h : i ∈ ids) : i ∈ refsOf R ids := List.mem_append_left _ h
theorem zk2 {rows : Nat → Option Row} {d : D} {r : Nat} (h : r ∈ d.refs) : r ∈ reach rows [d] := by
  have h1 : r ∈ D.refsL [d] := z1e (List.mem_singleton.2 rfl) r h
  exact z4h.2 (z6d (z4h.2 (z6d (z4h.2 h1))))
theorem z2w (is : List Nat) (id : Nat) (row : Row) (env : List D) (rows : Nat → Option Row) :
    (dropAll is ⟨env, rows⟩).newRow id row = ⟨env.map (killAll (is ++ [id])), fun i => if i = id then some row else (dropAll (is ++ [id]) ⟨[], rows⟩).rows i⟩ := by
  have e1 : (dropAll (is ++ [id]) ⟨env, rows⟩) = (dropAll is ⟨env, rows⟩).drop id := by rw [zai]; rfl
  have e2 := z5h (is ++ [id]) ⟨env, rows⟩
  have e3 : (dropAll (is ++ [id]) ⟨env, rows⟩).rows = (dropAll (is ++ [id]) ⟨[], rows⟩).rows := z5i (is ++ [id]) ⟨[], rows⟩ env
  rw [e1] at e2 e3
  show (⟨((dropAll is ⟨env, rows⟩).drop id).env, fun i => if i = id then some row else ((dropAll is ⟨env, rows⟩).drop id).rows i⟩ : St) = _
  rw [e2, e3]
theorem z2v (is : List Nat) (id : Nat) (row : Row) (rows : Nat → Option Row) {r : Nat} (h1 : r ≠ id) (h2 : r ∉ is) :
    r ∉ is ++ [id] ∧ (fun i => if i = id then some row else (dropAll (is ++ [id]) ⟨[], rows⟩).rows i) r = (rows r).map (rowKill (is ++ [id])) := by
  have h : r ∉ is ++ [id] := by simp [h1, h2]
  refine ⟨h, ?_⟩
  simp only [if_neg h1]
  exact z46 (is ++ [id]) ⟨[], rows⟩ r h
theorem zk5 {ei : TI} {id : Nat} {x y : D} {env : List D} {rows : Nat → Option Row} {d : D} {s : St} (h : nestApp ei id x y ⟨env, rows⟩ = some (d, s)) :
    ∃ (is : List Nat) (rows' : Nat → Option Row), (∀ env', nestApp ei id x y ⟨env', rows⟩ = some (d, ⟨env'.map (killAll is), rows'⟩)) ∧
      ∀ r, r ≠ id → (∀ r0 n, x = .nsl r0 n → r ≠ r0) → (∀ r0 n, y = .nsl r0 n → r ≠ r0) → r ∉ is ∧ rows' r = (rows r).map (rowKill is) := by
  unfold nestApp at h
  split at h
  case isFalse => cases h
  rename_i hc
  split at h
  case h_2 => cases h
  rename_i q m
  split at h
  case h_2 => cases h
  rename_i k yss hq
  simp only at hq
  split at h
  · split at h
    case isFalse => cases h
    rename_i k' hc2
    cases h
    refine ⟨[q] ++ [id], _, fun env' => ?_, fun r h1 h2 h3 => z2v [q] id ⟨true, .nest k yss⟩ rows h1 (by simpa using h3 q m rfl)⟩
    unfold nestApp
    rw [if_pos hc]
    simp only [hq, if_pos hc2]
    exact congrArg (fun z => some (D.nsl id m, z)) (z2w [q] id ⟨true, .nest k yss⟩ env' rows)
  · rename_i r0 n
    split at h
    case h_2 => cases h
    rename_i k' xss hr
    simp only at hr
    split at h
    case isFalse => cases h
    rename_i hc2
    cases h
    refine ⟨[q, r0] ++ [id], _, fun env' => ?_, fun r h1 h2 h3 => z2v [q, r0] id ⟨true, .nest k (xss ++ yss)⟩ rows h1 (by simp [h3 q m rfl, h2 r0 n rfl])⟩
    unfold nestApp
    rw [if_pos hc]
    simp only [hq, hr, if_pos hc2]
    exact congrArg (fun z => some (D.nsl id (n + m), z)) (z2w [q, r0] id ⟨true, .nest k (xss ++ yss)⟩ env' rows)
  · cases h
theorem zk8 {nk : NK} {id : Nat} {ds : List D} {env : List D} {rows : Nat → Option Row} {d : D} {s : St} (h : nestLit nk id ds ⟨env, rows⟩ = some (d, s)) :
    ∃ (is : List Nat) (rows' : Nat → Option Row), (∀ env', nestLit nk id ds ⟨env', rows⟩ = some (d, ⟨env'.map (killAll is), rows'⟩)) ∧
      ∀ r, r ≠ id → (∀ x ∈ ds, r ∉ x.refs) → r ∉ is ∧ rows' r = (rows r).map (rowKill is) := by
  unfold nestLit at h
  split at h
  · split at h
    case h_2 => cases h
    rename_i k
    cases h
    refine ⟨[] ++ [id], _, fun env' => ?_, fun r h1 _ => z2v [] id ⟨true, .nest k []⟩ rows h1 (by simp)⟩
    unfold nestLit
    exact congrArg (fun z => some (D.nsl id 0, z)) (z2w [] id ⟨true, .nest k []⟩ env' rows)
  · rename_i q m
    split at h
    case h_2 => cases h
    rename_i k xs hq
    simp only at hq
    split at h
    case isFalse => cases h
    rename_i hc
    cases h
    refine ⟨[q] ++ [id], _, fun env' => ?_, fun r h1 h2 => z2v [q] id ⟨true, .nest k [xs]⟩ rows h1 (by have := h2 (.rsl q 0 m) (by simp); simpa [D.refs] using this)⟩
    unfold nestLit
    simp only [hq, if_pos hc]
    exact congrArg (fun z => some (D.nsl id 1, z)) (z2w [q] id ⟨true, .nest k [xs]⟩ env' rows)
  · cases h
theorem zkb {nk : NK} {zero : List D} {id n : Nat} {env : List D} {rows : Nat → Option Row} {d : D} {s : St} (h : z29 nk zero id n ⟨env, rows⟩ = some (d, s)) :
    ∃ (is : List Nat) (rows' : Nat → Option Row), (∀ env', z29 nk zero id n ⟨env', rows⟩ = some (d, ⟨env'.map (killAll is), rows'⟩)) ∧ ∀ r, r ≠ id → r ∉ is ∧ rows' r = (rows r).map (rowKill is) := by
  unfold z29 at h
  split at h
  case h_2 => cases h
  rename_i k
  cases h
  refine ⟨[] ++ [id], _, fun env' => ?_, fun r h1 => z2v [] id ⟨true, .nest k (List.replicate n [])⟩ rows h1 (by simp)⟩
  unfold z29
  exact congrArg (fun z => some (D.nsl id n, z)) (z2w [] id ⟨true, .nest k (List.replicate n [])⟩ env' rows)
theorem zl0 {ei : TI} {id : Nat} {x y : D} {env : List D} {rows : Nat → Option Row} {d : D} {s : St} (h : recApp ei id x y ⟨env, rows⟩ = some (d, s)) :
    ∃ (is : List Nat) (rows' : Nat → Option Row), (∀ env', recApp ei id x y ⟨env', rows⟩ = some (d, ⟨env'.map (killAll is), rows'⟩)) ∧
      ∀ r, r ≠ id → (∀ r0 sz n, x = .rcs r0 sz n → r ≠ r0) → r ∉ is ∧ rows' r = (rows r).map (rowKill is) := by
  unfold recApp at h
  split at h
  case h_2 => cases h
  rename_i sh ys hsrc
  simp only at hsrc
  split at h
  case isFalse => cases h
  rename_i hc
  split at h
  · split at h
    case isFalse => cases h
    rename_i hc2
    cases h
    refine ⟨[] ++ [id], _, fun env' => ?_, fun r h1 h2 => z2v [] id ⟨true, .recs sh ys⟩ rows h1 (by simp)⟩
    unfold recApp
    simp only [hsrc, if_pos hc, if_pos hc2]
    exact congrArg (fun z => some (D.rcs id sh.length ys.length, z)) (z2w [] id ⟨true, .recs sh ys⟩ env' rows)
  · rename_i r0 sz n
    split at h
    case h_2 => cases h
    rename_i sh' xs hr
    simp only at hr
    split at h
    case isFalse => cases h
    rename_i hc2
    cases h
    refine ⟨[] ++ [id], fun i => if i = id then some ⟨true, .recs sh (xs ++ ys)⟩ else (dropAll ([] ++ [id]) ⟨[], fun i => if i = r0 then none else rows i⟩).rows i, fun env' => ?_, fun r h1 h2 => ?_⟩
    rotate_left
    · obtain ⟨g1, g2⟩ := z2v [] id ⟨true, .recs sh (xs ++ ys)⟩ (fun i => if i = r0 then none else rows i) h1 (by simp)
      refine ⟨g1, g2.trans ?_⟩
      simp only [if_neg (h2 r0 sz n rfl)]
    unfold recApp
    simp only [hsrc, if_pos hc, hr, if_pos hc2]
    exact congrArg (fun z => some (D.rcs id sh.length (xs ++ ys).length, z)) (z2w [] id ⟨true, .recs sh (xs ++ ys)⟩ env' (fun i => if i = r0 then none else rows i))
  · cases h
theorem zl3 {sh : List FK} {zero : List D} {id n : Nat} {env : List D} {rows : Nat → Option Row} {d : D} {s : St} (h : recMake sh zero id n ⟨env, rows⟩ = some (d, s)) :
    ∃ (is : List Nat) (rows' : Nat → Option Row), (∀ env', recMake sh zero id n ⟨env', rows⟩ = some (d, ⟨env'.map (killAll is), rows'⟩)) ∧ ∀ r, r ≠ id → r ∉ is ∧ rows' r = (rows r).map (rowKill is) := by
  unfold recMake at h
  obtain ⟨p, hp, e⟩ := Option.map_eq_some_iff.1 h
  cases e
  refine ⟨[] ++ [id], _, fun env' => ?_, fun r h1 => z2v [] id ⟨true, .recs sh (List.replicate n p)⟩ rows h1 (by simp)⟩
  unfold recMake
  rw [hp]
  exact congrArg (fun z => some (D.rcs id sh.length n, z)) (z2w [] id ⟨true, .recs sh (List.replicate n p)⟩ env' rows)
theorem zee {id : Nat} {ei : TI} {nk : NK} {x y : D} {env : List D} {rows : Nat → Option Row} {d : D} {s : St} (h : appendN X id ei nk x y ⟨env, rows⟩ = some (d, s)) :
    ∃ (is : List Nat) (rows' : Nat → Option Row), (∀ env', appendN X id ei nk x y ⟨env', rows⟩ = some (d, ⟨env'.map (killAll is), rows'⟩)) ∧
      ∀ r, r ≠ id → (∀ r0 off n, x = .rsl r0 off n → isN y = false → r ≠ r0) → (∀ r0 n, x = .nsl r0 n → isN y = true → r ≠ r0) → (∀ r0 n, y = .nsl r0 n → r ≠ r0) → (∀ r0 sz n, x = .rcs r0 sz n → isN y = false → r ≠ r0) → r ∉ is ∧ rows' r = (rows r).map (rowKill is) := by
  unfold appendN at h ⊢
  cases hy : isN y with
  | true =>
    rw [hy] at h
    simp only [if_true] at h ⊢
    obtain ⟨is, rows', h1, h2⟩ := zk5 h
    exact ⟨is, rows', h1, fun r a1 _ a3 a4 _ => h2 r a1 (fun r0 n e => a3 r0 n e trivial) a4⟩
  | false =>
    rw [hy] at h
    simp only [Bool.false_eq_true, if_false] at h ⊢
    cases hy2 : isR y with
    | true =>
      rw [hy2] at h
      simp only [if_true] at h ⊢
      obtain ⟨is, rows', h1, h2⟩ := zl0 h
      exact ⟨is, rows', h1, fun r a1 _ _ _ a5 => h2 r a1 fun r0 sz n e => a5 r0 sz n e trivial⟩
    | false =>
      rw [hy2] at h
      simp only [Bool.false_eq_true, if_false] at h ⊢
      obtain ⟨is, rows', h1, h2⟩ := zec h
      exact ⟨is, rows', h1, fun r a1 a2 _ _ _ => h2 r a1 fun r0 off n e => a2 r0 off n e trivial⟩
theorem z9c {o : Oper} {t : Nat} {args : Array Operand} {at_ : Array TypeId} (hg : o.guard = none) (hd : o.dst = some t) (hop : o.op = .call { callee := .builtin .append, args := args, argTypes := at_ }) (st : St) :
    stepG X cl ops o st = match args.toList, at_.toList with
      | [x, y], [ta, ty] => match elemOf X ta, X.tt ty with
        | some (e, ei), some ⟨.slice _, _, _, _⟩ => (appendN X (nid t) ei (nkElem X e) (ev X st x) (ev X st y) st).map fun (r, s) => s.setD (some t) r
        | some (e, ei), some ⟨.int _, _, _, _⟩ => (appendZ (nid t) ei (nkElem X e) (ev X st x) (ev X st y) st).map fun (r, s) => s.setD (some t) r
        | _, _ => none
      | _, _ => none := by
  have hw : wanted ops st o = .yes := by unfold wanted; rw [hg]
  unfold stepG
  rw [hw]
  simp only
  unfold step
  simp only [hop, hd]
  rfl
theorem ev_keep {o : Oper} {env : List D} {rows : Nat → Option Row} {x : Operand} (hx : x ∈ o.op.operands.toList) : ev X ⟨keepEnv (o.looksAt ops) 0 env, rows⟩ x = ev X ⟨env, rows⟩ x := by
  cases x with
  | tmp s =>
    have hs : s ∈ o.looksAt ops := by
      unfold Oper.looksAt
      rw [List.mem_append]
      exact .inl (List.mem_filterMap.2 ⟨_, hx, rfl⟩)
    simp only [ev, List.getD_eq_getElem?_getD, z5s, Nat.zero_add]
    have : (o.looksAt ops).contains s = true := by simpa using hs
    cases env[s]? with
    | none => rfl
    | some d => simp [hs]
  | _ => rfl
def SameAt (X : Ctx) (o : Oper) (st st' : St) : Prop := ∀ x ∈ o.op.operands.toList, ev X st' x = ev X st x
theorem SameAt.vs {o : Oper} {st st' : St} (h : SameAt X o st st') : o.op.operands.toList.map (ev X st') = o.op.operands.toList.map (ev X st) := List.map_congr_left h
theorem zm4 {o : Oper} (h : seqRd0 o = true) : o.guard = none ∧ (∃ t, o.dst = some t) ∧ (cls o.op = .pure ∨ cls o.op = .read) := by
  unfold seqRd0 at h
  simp only [Bool.and_eq_true, Option.isNone_iff_eq_none, Option.isSome_iff_exists] at h
  refine ⟨h.1.1, h.1.2, ?_⟩
  have := h.2
  cases e : cls o.op <;> simp [e] at this ⊢
theorem z1f {is : List Nat} {f0 : Option D} (h : ∀ d, f0 = some d → killAll is d = d) : f0 = f0.map (killAll is) := by
  cases f0 with
  | none => rfl
  | some d => simp [h d rfl]
theorem z10 (is : List Nat) (k : IntKind) (n : Int) : killAll is (.int k n) = .int k n := zk is _ fun r hr => by simp [D.refs] at hr
theorem z80 (is : List Nat) (s : ByteArray) : killAll is (.str s) = .str s := zk is _ fun r hr => by simp [D.refs] at hr
theorem z3i (is : List Nat) (b : Bool) : killAll is (.bool b) = .bool b := zk is _ fun r hr => by simp [D.refs] at hr
theorem z53 (is : List Nat) (cs : List D) : killAll is (.pim cs) = .pim cs := zk is _ fun r hr => by simp [D.refs] at hr
theorem zen {op : BinOp} {k : IntKind} {x y : Int} {d : D} (h : binI op k x y = some d) (is : List Nat) : killAll is d = d := by
  unfold binI at h
  split at h <;> first
    | (cases h; first | exact z10 _ _ _ | exact z3i _ _)
    | (split at h; cases h; cases h; first | exact z10 _ _ _ | exact z3i _ _)
    | cases h
theorem zek {op : BinOp} {t : Option TI} {x y d : D} (h : binD op t x y = some d) (is : List Nat) : killAll is d = d := by
  unfold binD at h
  split at h
  · split at h
    · unfold shiftI at h
      split at h
      · cases h
      · simp only at h; cases h; exact z10 _ _ _
    · unfold shiftI at h
      split at h
      · cases h
      · simp only at h; cases h; exact z10 _ _ _
    · split at h
      · exact zen h is
      · cases h
  · split at h
    · cases h; exact z3i _ _
    · cases h; exact z3i _ _
    · cases h
  · cases h
theorem zbw {i : TI} {cells : List D} {d : D} (h : loadL i cells = some d) (hc : D.refsL cells = []) (is : List Nat) : killAll is d = d := by
  unfold loadL at h
  split at h
  · split at h
    · cases h
      refine zk is _ fun r hr => ?_
      simp only [D.refs] at hr
      have := z8t (ds := cells.take i.size) (ds' := cells) (fun d hd => List.mem_of_mem_take hd) r hr
      rw [hc] at this; cases this
    · cases h
  · split at h
    · refine zk is _ fun r hr => ?_
      have := z1e (List.mem_of_getElem? h) r hr
      rw [hc] at this; cases this
    · cases h
theorem zkx {o : Oper} {env : List D} {rows rows' : Nat → Option Row} {is refs : List Nat} (hr : rdRefs0 X o ⟨env, rows⟩ = some refs) (hk : ∀ r ∈ refs, r ∉ is ∧ rows' r = (rows r).map (rowKill is)) :
    rdRefs0 X o ⟨env.map (killAll is), rows'⟩ = some refs ∧
    quietA X ⟨keepEnv (o.looksAt ops) 0 (env.map (killAll is)), rows'⟩ o = (quietA X ⟨keepEnv (o.looksAt ops) 0 env, rows⟩ o).map (killAll is) := by
  cases hmv : (seqFr0 o && mvOp o.op) with
  | true =>
    unfold rdRefs0 at hr ⊢
    rw [if_pos hmv] at hr ⊢
    refine ⟨hr, ?_⟩
    rw [Bool.and_eq_true] at hmv
    have h2 := hmv.2
    unfold mvOp at h2
    have hev : ∀ s, Operand.tmp s ∈ o.op.operands.toList → ev X ⟨keepEnv (o.looksAt ops) 0 (env.map (killAll is)), rows'⟩ (.tmp s) = killAll is (ev X ⟨keepEnv (o.looksAt ops) 0 env, rows⟩ (.tmp s)) := fun s hs => by
      rw [ev_keep hs, ev_keep hs]
      simp only [ev, z50]
    have hcv : ∀ v, ev X ⟨keepEnv (o.looksAt ops) 0 (env.map (killAll is)), rows'⟩ (.const v) = killAll is (ev X ⟨keepEnv (o.looksAt ops) 0 env, rows⟩ (.const v)) := fun v => (zbl v is).symm
    split at h2
    · rename_i s hop; simp only [quietA, quiet, hop, Option.map_some]; rw [hev s (by rw [hop]; simp [Op.operands])]
    · rename_i v hop; simp only [quietA, quiet, hop, Option.map_some]; rw [hcv v]
    · rename_i s hop; simp only [quietA, hop, Option.map_some]; rw [hev s (by rw [hop]; simp [Op.operands])]
    · rename_i v hop; simp only [quietA, hop, Option.map_some]; rw [hcv v]
    · cases h2
  | false =>
  unfold rdRefs0 at hr
  rw [hmv, if_neg (by decide)] at hr
  simp only [Option.ite_none_right_eq_some, Option.some.injEq] at hr
  obtain ⟨hc, rfl⟩ := hr
  rw [Bool.and_eq_true, Bool.and_eq_true] at hc
  obtain ⟨⟨hf, hs⟩, hl⟩ := hc
  have hself : ∀ x ∈ o.op.operands.toList, killAll is (ev X ⟨env, rows⟩ x) = ev X ⟨env, rows⟩ x := fun x hx =>
    zk is _ fun r hr => (hk r (z1e (List.mem_map.2 ⟨x, hx, rfl⟩) r hr)).1
  have same : SameAt X o ⟨env, rows⟩ ⟨env.map (killAll is), rows'⟩ := fun x hx => by
    cases x with
    | tmp s =>
      have := hself (.tmp s) hx
      simp only [ev] at this ⊢
      rw [z50, this]
    | _ => rfl
  have hrow : ∀ x ∈ o.op.operands.toList, ∀ r ∈ (ev X ⟨env, rows⟩ x).refs, rows' r = (rows r).map (rowKill is) := fun x hx r hr => (hk r (z1e (List.mem_map.2 ⟨x, hx, rfl⟩) r hr)).2
  refine ⟨?_, ?_⟩
  · unfold rdRefs0
    rw [hmv, if_neg (by decide), same.vs]
    have : loadOKO X o ⟨env.map (killAll is), rows'⟩ = true := by
      unfold loadOKO at hl ⊢
      split at hl
      · rename_i t x hop
        have hx : x ∈ o.op.operands.toList := by rw [hop]; simp [Op.operands]
        rw [same x hx]
        have hrx := hrow x hx
        revert hl hrx
        cases ev X ⟨env, rows⟩ x with
        | pel r j =>
          intro hl hrx
          have h2 := hrx r (by simp [D.refs])
          unfold loadOKD at hl ⊢
          simp only [h2] at hl ⊢
          cases hrr : rows r with
          | none => rw [hrr] at hl; cases hl
          | some row =>
            obtain ⟨w, c⟩ := row
            rw [hrr] at hl
            have hflat : c.isVar = false := by cases c <;> first | rfl | cases hl
            simp only [Option.map_some, z20 is w c hflat]
            exact hl
        | _ => intro hl _; exact hl
      · rfl
    rw [if_pos]
    rw [Bool.and_eq_true, Bool.and_eq_true]
    exact ⟨⟨hf, hs⟩, this⟩
  · have hfr : freeOp o.op = true := by unfold seqFr0 at hf; simp only [Bool.and_eq_true] at hf; exact hf.2
    have k1 : ∀ x ∈ o.op.operands.toList, ev X ⟨keepEnv (o.looksAt ops) 0 env, rows⟩ x = ev X ⟨env, rows⟩ x := fun x hx => ev_keep hx
    have k2 : ∀ x ∈ o.op.operands.toList, ev X ⟨keepEnv (o.looksAt ops) 0 (env.map (killAll is)), rows'⟩ x = ev X ⟨env, rows⟩ x := fun x hx => (ev_keep hx).trans (same x hx)
    unfold freeOp at hfr
    split at hfr
    · rename_i x hop
      have hx : x ∈ o.op.operands.toList := by rw [hop]; simp [Op.operands]
      simp only [quietA, quiet, hop, k1 x hx, k2 x hx, Option.map_some, hself x hx]
    · rename_i x hop
      have hx : x ∈ o.op.operands.toList := by rw [hop]; simp [Op.operands]
      simp only [quietA, hop, k1 x hx, k2 x hx, Option.map_some, hself x hx]
    · rename_i t x hop
      have hx : x ∈ o.op.operands.toList := by rw [hop]; simp [Op.operands]
      simp only [quietA, quiet, hop, k1 x hx, k2 x hx]
      have hrx := hrow x hx
      unfold loadOKO at hl
      rw [hop] at hl
      simp only at hl
      cases X.tt t with
      | none => rfl
      | some i =>
        simp only
        cases e : ev X ⟨env, rows⟩ x with
        | pim cells =>
          rw [e] at hl
          simp only [loadOKD, List.isEmpty_iff] at hl
          simp only [loadD]
          exact z1f fun d hd => zbw hd hl is
        | ptr r off =>
          rw [e] at hrx
          have h2 := hrx r (by simp [D.refs])
          simp only [loadD, h2]
          cases hrr : rows r with
          | none => rfl
          | some row =>
            obtain ⟨w, c⟩ := row
            cases c with
            | var cells => simp only [Option.map_some, z34, ← List.map_drop, zjv]
            | mp kk vk es => simp only [Option.map_some, Option.map_none, z31]
            | nest k xss => simp only [Option.map_some, Option.map_none, z32]
            | recs sh ps => simp only [Option.map_some, Option.map_none, z33]
            | _ =>
              simp only [Option.map_some, Option.map_none]
              rw [z20] <;> rfl
        | npe r j =>
          have hself0 := hself x hx
          rw [e] at hrx hself0
          have h2 := hrx r (by simp [D.refs])
          simp only [loadD, h2]
          cases hrr : rows r with
          | none => rfl
          | some row =>
            obtain ⟨w, c⟩ := row
            cases c with
            | nest k xss =>
              simp only [Option.map_some, z32]
              refine z1f fun d hd => ?_
              split at hd
              · cases hd
                refine zk is _ fun q hq => ?_
                simp only [D.refs, List.mem_singleton] at hq
                subst hq
                exact (hk _ (z1e (List.mem_map.2 ⟨x, hx, rfl⟩) _ (by simp [e, D.refs]))).1
              · cases hd
            | var cells => simp only [Option.map_some, z34, Option.map_none]
            | mp kk vk es => simp only [Option.map_some, Option.map_none, z31]
            | recs sh ps => simp only [Option.map_some, Option.map_none, z33]
            | _ =>
              simp only [Option.map_some, Option.map_none]
              rw [z20] <;> rfl
        | nep r j q =>
          have hself0 := hself x hx
          rw [e] at hrx hself0
          have h2 := hrx r (by simp [D.refs])
          simp only [loadD, h2]
          cases hrr : rows r with
          | none => rfl
          | some row =>
            obtain ⟨w, c⟩ := row
            cases c with
            | nest k xss =>
              simp only [Option.map_some, z32]
              refine z1f fun d hd => ?_
              split at hd
              · cases hd
                exact z10 _ _ _
              · cases hd
            | var cells => simp only [Option.map_some, z34, Option.map_none]
            | mp kk vk es => simp only [Option.map_some, Option.map_none, z31]
            | recs sh ps => simp only [Option.map_some, Option.map_none, z33]
            | _ =>
              simp only [Option.map_some, Option.map_none]
              rw [z20] <;> rfl
        | rpe r sz j f =>
          rw [e] at hrx
          have h2 := hrx r (by simp [D.refs])
          simp only [loadD, h2]
          cases hrr : rows r with
          | none => rfl
          | some row =>
            obtain ⟨w, c⟩ := row
            cases c with
            | recs sh ps =>
              simp only [Option.map_some, z33]
              refine z1f fun d hd => ?_
              split at hd
              · exact zbw hd (zck _ _ (z4y _ _)) is
              · cases hd
            | var cells => simp only [Option.map_some, z34, Option.map_none]
            | mp kk vk es => simp only [Option.map_some, Option.map_none, z31]
            | nest k xss => simp only [Option.map_some, Option.map_none, z32]
            | _ =>
              simp only [Option.map_some, Option.map_none]
              rw [z20] <;> rfl
        | pel r j =>
          rw [e] at hl hrx
          have h2 := hrx r (by simp [D.refs])
          simp only [loadOKD] at hl
          simp only [loadD, h2]
          cases hrr : rows r with
          | none => rfl
          | some row =>
            rw [hrr] at hl
            obtain ⟨w, c⟩ := row
            have hflat : c.isVar = false := by cases c <;> first | rfl | cases hl
            simp only [Option.map_some, z20 is w c hflat]
            refine z1f fun d hd => ?_
            split at hd
            · cases hd
            · split at hd
              · cases c with
                | ints k xs => simp only [Cont.get] at hd; split at hd; cases hd; exact z10 _ _ _; cases hd
                | bools xs => simp only [Cont.get] at hd; split at hd; cases hd; exact z3i _ _; cases hd
                | ints2 k xs =>
                  simp only [Cont.get] at hd
                  split at hd
                  · cases hd; exact zk is _ (fun r hr => by simp [D.refs] at hr)
                  · cases hd
                | _ => cases hl
              · cases hd
        | _ => rfl
    · rename_i t x f hop
      have hx : x ∈ o.op.operands.toList := by rw [hop]; simp [Op.operands]
      simp only [quietA, quiet, hop, k1 x hx, k2 x hx]
      refine z1f fun d hd => ?_
      split at hd
      case h_2 => cases hd
      unfold z5j at hd
      have hsx := hself x hx
      split at hd
      case h_2 => cases hd
      split at hd
      case h_2 => cases hd
      split at hd
      case h_2 => cases hd
      split at hd
      · cases hd
      · split at hd
        · rename_i r o' e
          cases hd
          refine zk is _ fun q hq => ?_
          simp only [D.refs, List.mem_singleton] at hq
          subst hq
          exact (hk _ (z1e (List.mem_map.2 ⟨x, hx, rfl⟩) _ (by rw [e]; simp [D.refs]))).1
        · cases hd; exact z53 _ _
        · rename_i r sz j o' e
          cases hd
          refine zk is _ fun q hq => ?_
          simp only [D.refs, List.mem_singleton] at hq
          subst hq
          exact (hk _ (z1e (List.mem_map.2 ⟨x, hx, rfl⟩) _ (by rw [e]; simp [D.refs]))).1
        · cases hd
    · rename_i t x ix hop
      have hx : x ∈ o.op.operands.toList := by rw [hop]; simp [Op.operands]
      have hix : ix ∈ o.op.operands.toList := by rw [hop]; simp [Op.operands]
      simp only [quietA, quiet, hop, k1 x hx, k2 x hx, k1 ix hix, k2 ix hix]
      refine z1f fun d hd => ?_
      have key : ∀ r ∈ (ev X ⟨env, rows⟩ x).refs, r ∉ is := fun r hr => (hk r (z1e (List.mem_map.2 ⟨x, hx, rfl⟩) r hr)).1
      split at hd
      case h_2 => cases hd
      unfold z1k at hd
      split at hd
      case h_2 => cases hd
      split at hd
      · rename_i r off n _ e
        split at hd
        · split at hd
          · cases hd
            refine zk is _ fun q hq => ?_
            simp only [D.refs, List.mem_singleton] at hq
            subst hq
            exact key _ (by simp_all [D.refs])
          · cases hd
        · cases hd
      · split at hd
        · split at hd
          · cases hd; exact z53 _ _
          · cases hd
        · cases hd
      · rename_i r sz n _ e
        split at hd
        · split at hd
          · cases hd
            refine zk is _ fun q hq => ?_
            simp only [D.refs, List.mem_singleton] at hq
            subst hq
            exact key _ (by simp_all [D.refs])
          · cases hd
        · cases hd
      · rename_i r n _ e
        split at hd
        · split at hd
          · cases hd
            refine zk is _ fun q hq => ?_
            simp only [D.refs, List.mem_singleton] at hq
            subst hq
            exact key _ (by simp_all [D.refs])
          · cases hd
        · cases hd
      · rename_i r p n _ e
        split at hd
        · split at hd
          · cases hd
            refine zk is _ fun q hq => ?_
            simp only [D.refs, List.mem_singleton] at hq
            subst hq
            exact key _ (by simp_all [D.refs])
          · cases hd
        · cases hd
      · split at hd
        · split at hd
          · obtain ⟨d0, _, rfl⟩ := Option.map_eq_some_iff.1 hd; exact z53 _ _
          · cases hd
        · cases hd
      · split at hd
        · split at hd
          · cases hd; exact z53 _ _
          · cases hd
        · cases hd
      · split at hd
        · split at hd
          · cases hd
            refine zk is _ fun q hq => ?_
            simp only [D.refs, List.mem_singleton] at hq
            subst hq
            exact key _ (by simp_all [D.refs])
          · cases hd
        · cases hd
      · cases hd
    · rename_i t x f hop
      have hx : x ∈ o.op.operands.toList := by rw [hop]; simp [Op.operands]
      simp only [quietA, quiet, hop, k1 x hx, k2 x hx]
      refine z1f fun d hd => ?_
      have key : ∀ r ∈ (ev X ⟨env, rows⟩ x).refs, r ∉ is := fun r hr => (hk r (z1e (List.mem_map.2 ⟨x, hx, rfl⟩) r hr)).1
      split at hd
      case h_2 => cases hd
      unfold fieldD at hd
      split at hd
      case h_2 => cases hd
      rename_i cells hfs e
      rw [e] at key
      simp only [D.refs] at key
      split at hd
      case h_2 => cases hd
      split at hd
      case h_2 => cases hd
      split at hd
      · split at hd
        · cases hd
          refine zk is _ fun q hq => key q ?_
          simp only [D.refs] at hq
          exact z8t (fun d hd => List.mem_of_mem_drop (List.mem_of_mem_take hd)) q hq
        · cases hd
      · exact zk is _ fun q hq => key q (z1e (List.mem_of_getElem? hd) q hq)
    · rename_i x ix hop
      have hx : x ∈ o.op.operands.toList := by rw [hop]; simp [Op.operands]
      simp only [quietA, quiet, hop, k1 x hx, k2 x hx]
      refine z1f fun d hd => ?_
      have key : ∀ r ∈ (ev X ⟨env, rows⟩ x).refs, r ∉ is := fun r hr => (hk r (z1e (List.mem_map.2 ⟨x, hx, rfl⟩) r hr)).1
      split at hd
      case h_2 => cases hd
      rename_i vs e
      rw [e] at key
      simp only [D.refs] at key
      exact zk is _ fun q hq => key q (z1e (List.mem_of_getElem? hd) q hq)
    · rename_i op t x y p hop
      have hx : x ∈ o.op.operands.toList := by rw [hop]; simp [Op.operands]
      have hy : y ∈ o.op.operands.toList := by rw [hop]; simp [Op.operands]
      simp only [quietA, quiet, hop, binC, k1 x hx, k2 x hx, k1 y hy, k2 y hy]
      refine z1f fun d hd => ?_
      split at hd
      · split at hd
        · unfold nilD at hd
          split at hd <;> first | (cases hd; exact z3i _ _) | cases hd
        · cases hd
      · exact zek hd is
    · rename_i op p x hop
      have hx : x ∈ o.op.operands.toList := by rw [hop]; simp [Op.operands]
      simp only [quietA, quiet, hop, k1 x hx, k2 x hx]
      refine z1f fun d hd => ?_
      unfold unD at hd
      split at hd
      · split at hd <;> first | (cases hd; exact z3i _ _) | cases hd
      · split at hd <;> first | (cases hd; exact z10 _ _ _) | cases hd
      · cases hd
    · rename_i s d x hop
      have hx : x ∈ o.op.operands.toList := by rw [hop]; simp [Op.operands]
      simp only [quietA, quiet, hop, k1 x hx, k2 x hx]
      have hcs : ∀ si di, convS X rows' si di (ev X ⟨env, rows⟩ x) = (convS X rows si di (ev X ⟨env, rows⟩ x)).map (killAll is) := by
        intro si di
        have hrx := hrow x hx
        unfold convS
        split
        case h_2 => rfl
        split
        case h_2 => rfl
        unfold strOf
        generalize ev X ⟨env, rows⟩ x = dx at hrx
        cases dx with
        | nil k => simp only [Option.map_some, z80]
        | immI k xs => cases k <;> first | (simp only [Option.map_some, z80]; done) | rfl
        | rsl r off n =>
          have h2 := hrx r (by simp [D.refs])
          simp only [h2]
          cases hrr : rows r with
          | none => rfl
          | some row =>
            obtain ⟨w, c⟩ := row
            cases c with
            | ints k xs =>
              simp only [Option.map_some]
              rw [z20 is w (.ints k xs) rfl]
              cases k <;> first
                | rfl
                | (simp only
                   split
                   · simp only [Option.map_some, z80]
                   · rfl)
            | var cells => simp only [Option.map_some, z34, Option.map_none]
            | mp kk vk es => simp only [Option.map_some, Option.map_none, z31]
            | nest k xss => simp only [Option.map_some, Option.map_none, z32]
            | recs sh ps => simp only [Option.map_some, Option.map_none, z33]
            | _ =>
              simp only [Option.map_some, Option.map_none]
              rw [z20] <;> rfl
        | _ => rfl
      cases hs1 : X.tt s with
      | none => rfl
      | some si =>
        cases hd1 : X.tt d with
        | none => rfl
        | some di =>
          have hcs := hcs si di
          generalize ev X ⟨env, rows⟩ x = dx at hcs
          cases dx with
          | int k n =>
            simp only
            refine z1f fun d hd => ?_
            split at hd
            · cases hd; exact z10 _ _ _
            · cases hd
          | _ => exact hcs
    · rename_i x hop
      have hx : x ∈ o.op.operands.toList := by rw [hop]; simp [Op.operands]
      simp only [quietA, quiet, hop, k1 x hx, k2 x hx]
      refine z1f fun d hd => ?_
      split at hd
      · rename_i r o' e
        cases hd
        have := hself x hx
        rw [e] at this
        exact this
      · cases hd; exact z53 _ _
      · cases hd
    · rename_i args at_ hop
      simp only [quietA, quiet, hop]
      have hm : ∀ z ∈ args.toList, z ∈ o.op.operands.toList := fun z hz => by rw [hop]; simp [Op.operands, Call.operands]; simpa using hz
      split
      · rename_i x t hargs hty
        rw [hargs] at hm
        have hx := hm x (by simp)
        rw [k1 x hx, k2 x hx]
        cases ht : X.tt t with
        | none => rfl
        | some i =>
          obtain ⟨kind, s, b, z⟩ := i
          cases kind with
          | slice e =>
            simp only
            refine z1f fun d hd => ?_
            unfold lenD at hd
            split at hd
            · cases hd; exact z10 _ _ _
            · cases hd; exact z10 _ _ _
            · cases hd; exact z10 _ _ _
            · cases hd; exact z10 _ _ _
            · cases hd; exact z10 _ _ _
            · cases hd; exact z10 _ _ _
            · obtain ⟨c, _, rfl⟩ := Option.map_eq_some_iff.1 hd; exact z10 _ _ _
          | map ke el =>
            simp only
            have hrx := hrow x hx
            cases e : ev X ⟨env, rows⟩ x with
            | mpr r =>
              rw [e] at hrx
              have h2 := hrx r (by simp [D.refs])
              simp only [mapLenD, h2]
              cases hrr : rows r with
              | none => rfl
              | some row =>
                obtain ⟨w, c⟩ := row
                cases c with
                | mp kk vk es => simp only [Option.map_some, z31, z10]
                | nest k xss => simp only [Option.map_some, Option.map_none, z32]
                | recs sh ps => simp only [Option.map_some, Option.map_none, z33]
                | var cells => simp only [Option.map_some, z34, Option.map_none]
                | _ =>
                  simp only [Option.map_some, Option.map_none]
                  rw [z20] <;> rfl
            | _ => rfl
          | _ => rfl
      · rfl
    · cases hfr
theorem ze5 {o : Oper} {env env' : List D} {rows : Nat → Option Row} (h : SameAt X o ⟨env, rows⟩ ⟨env', rows⟩) : touch X o ⟨env', rows⟩ = touch X o ⟨env, rows⟩ := by
  unfold touch
  split
  · rename_i g args at_ d hop _
    have hg := h g (by rw [hop]; simp [Op.operands, Call.operands])
    have ha : args.toList.map (ev X ⟨env', rows⟩) = args.toList.map (ev X ⟨env, rows⟩) := List.map_congr_left fun x hx => h x (by rw [hop]; simp [Op.operands, Call.operands]; simp at hx; exact .inr hx)
    rw [hg, ha]
  · rename_i args at_ d hop _
    split
    · rename_i x y hargs
      have hx := h x (by rw [hop]; simp [Op.operands, Call.operands]; have : x ∈ args.toList := by rw [hargs]; simp
                         simpa using this)
      have hy := h y (by rw [hop]; simp [Op.operands, Call.operands]; have : y ∈ args.toList := by rw [hargs]; simp
                         simpa using this)
      rw [hx, hy]
    · rfl
  · rename_i t n parts d hop _
    congr 3
    refine List.map_congr_left fun p hp => ?_
    have := h p.2 (by rw [hop]; simp [Op.operands]; exact ⟨p.1, by simpa using hp⟩)
    rw [this]
  · rfl
  · rename_i t ad x hop _
    have h1 := h ad (by rw [hop]; simp [Op.operands])
    have h2 := h x (by rw [hop]; simp [Op.operands])
    rw [h1, h2]
  · rfl
theorem zci {rows rows1 : Nat → Option Row} (h : ∀ i, (rows1 i).map (·.c) = (rows i).map (·.c)) (ds : List D) : reach rows1 ds = reach rows ds := by
  have e : ∀ ids, refsOf rows1 ids = refsOf rows ids := fun ids => by
    unfold refsOf
    congr 2
    refine List.map_congr_left fun i _ => ?_
    have := h i
    cases h1 : rows1 i <;> cases h2 : rows i <;> simp [h1, h2] at this ⊢
    rw [this]
  unfold reach
  rw [e, e]
theorem z6j {d d' : D} {env : List D} {rows : Nat → Option Row} {s : St} (h : settle ⟨env, rows⟩ d = some (d', s)) : ∃ rows1, s = ⟨env, rows1⟩ ∧ (∀ env', settle ⟨env', rows⟩ d = some (d', ⟨env', rows1⟩)) ∧
    (∀ r, r ∉ reach rows [d] → rows1 r = rows r) ∧ ∀ i, (rows1 i).map (·.c) = (rows i).map (·.c) := by
  unfold settle at h
  simp only at h
  obtain ⟨x, hx, e⟩ := Option.map_eq_some_iff.1 h
  have e' : (if (reach rows [d]).isEmpty = true then (⟨env, rows⟩ : St) else (⟨env, rows⟩ : St).freeze (reach rows [d])) = ⟨env, if (reach rows [d]).isEmpty then rows else ((⟨[], rows⟩ : St).freeze (reach rows [d])).rows⟩ := by split <;> rfl
  simp only [e'] at e
  cases e
  refine ⟨_, rfl, fun env' => ?_, fun r hr => ?_, fun i => ?_⟩
  · unfold settle
    simp only [hx, Option.map_some]
    congr 2
    split <;> rfl
  · split
    · rfl
    · simp only [St.freeze]
      cases e : rows r with
      | none => rfl
      | some row => simp [hr]
  · split
    · rfl
    · simp only [St.freeze]
      cases e : rows i with
      | none => rfl
      | some row => simp only [Option.map_some]; split <;> rfl
theorem za1 {nk : NK} : ∀ {ds : List D} {c c' : Cont} {env : List D} {rows : Nat → Option Row} {s : St}, buildC X nk ds c ⟨env, rows⟩ = some (c', s) → ∃ rows1, s = ⟨env, rows1⟩ ∧ (∀ env', buildC X nk ds c ⟨env', rows⟩ = some (c', ⟨env', rows1⟩)) ∧
    (∀ r, (∀ d ∈ ds, r ∉ reach rows [d]) → rows1 r = rows r) ∧ ∀ i, (rows1 i).map (·.c) = (rows i).map (·.c)
  | [], c, c', env, rows, s, h => by
    simp only [buildC] at h
    cases h
    exact ⟨rows, rfl, fun env' => by simp only [buildC], fun r _ => rfl, fun i => rfl⟩
  | d :: ds, c, c', env, rows, s, h => by
    simp only [buildC] at h
    split at h
    case h_2 => cases h
    rename_i d' s1 hs
    obtain ⟨rows1, rfl, g2, g3, g4⟩ := z6j hs
    have step : ∀ {c1 : Cont}, buildC X nk ds c1 ⟨env, rows1⟩ = some (c', s) → (∀ env', buildC X nk (d :: ds) c ⟨env', rows⟩ = buildC X nk ds c1 ⟨env', rows1⟩) → ∃ rows2, s = ⟨env, rows2⟩ ∧ (∀ env', buildC X nk (d :: ds) c ⟨env', rows⟩ = some (c', ⟨env', rows2⟩)) ∧
        (∀ r, (∀ d' ∈ d :: ds, r ∉ reach rows [d']) → rows2 r = rows r) ∧ ∀ i, (rows2 i).map (·.c) = (rows i).map (·.c) := by
      intro c1 hh heq
      obtain ⟨rows2, rfl, k2, k3, k4⟩ := za1 hh
      refine ⟨rows2, rfl, fun env' => by rw [heq env']; exact k2 env', fun r hr => ?_, fun i => (k4 i).trans (g4 i)⟩
      rw [k3 r fun d' hd' => by rw [zci g4]; exact hr d' (by simp [hd'])]
      exact g3 r (hr d (by simp))
    split at h
    · split at h
      · rename_i k xs k' n hk
        exact step h fun env' => by simp only [buildC, g2 env', if_pos hk]
      · cases h
    · exact step h fun env' => by simp only [buildC, g2 env']
    · split at h
      · rename_i k xss k' xs hk
        exact step h fun env' => by simp only [buildC, g2 env', if_pos hk]
      · cases h
    · exact step h fun env' => by simp only [buildC, g2 env']
    · split at h
      · rename_i els d'' hk
        exact step h fun env' => by simp only [buildC, g2 env', if_pos hk]
      · cases h
    · cases h
theorem z7c {sh : List FK} : ∀ {ds : List D} {ps : List Rcd} {env : List D} {rows : Nat → Option Row} {s : St}, buildR sh ds ⟨env, rows⟩ = some (ps, s) → ∃ rows1, s = ⟨env, rows1⟩ ∧ (∀ env', buildR sh ds ⟨env', rows⟩ = some (ps, ⟨env', rows1⟩)) ∧
    (∀ r, (∀ d ∈ ds, r ∉ reach rows [d]) → rows1 r = rows r) ∧ ∀ i, (rows1 i).map (·.c) = (rows i).map (·.c)
  | [], ps, env, rows, s, h => by
    simp only [buildR] at h
    cases h
    exact ⟨rows, rfl, fun env' => by simp only [buildR], fun r _ => rfl, fun i => rfl⟩
  | d :: ds, ps, env, rows, s, h => by
    simp only [buildR] at h
    split at h
    case h_2 => cases h
    rename_i cells s1 hs
    obtain ⟨rows1, rfl, g2, g3, g4⟩ := z6j hs
    split at h
    case h_2 => cases h
    rename_i p hp
    obtain ⟨⟨ps', s'⟩, hh, e⟩ := Option.map_eq_some_iff.1 h
    cases e
    obtain ⟨rows2, rfl, k2, k3, k4⟩ := z7c hh
    refine ⟨rows2, rfl, fun env' => by simp only [buildR, g2 env', hp, k2 env', Option.map_some], fun r hr => ?_, fun i => (k4 i).trans (g4 i)⟩
    rw [k3 r fun d' hd' => by rw [zci g4]; exact hr d' (by simp [hd'])]
    exact g3 r (hr d (by simp))
theorem z30 (id : Nat) (row : Row) (env : List D) (rows : Nat → Option Row) : (⟨env, rows⟩ : St).newRow id row = ⟨env.map (killAll [id]), fun i => if i = id then some row else ((⟨[], rows⟩ : St).drop id).rows i⟩ := by
  have e1 : D.renL (killF id) env = env.map (killAll [id]) := by rw [z4i]; rfl
  show (⟨D.renL (killF id) env, _⟩ : St) = _
  rw [e1]; rfl
theorem z69 (id : Nat) (row : Row) (rows : Nat → Option Row) {r : Nat} (hr : r ≠ id) : r ∉ [id] ∧ (fun i => if i = id then some row else ((⟨[], rows⟩ : St).drop id).rows i) r = (rows r).map (rowKill [id]) := by
  refine ⟨by simpa using hr, ?_⟩
  simp only [if_neg hr]
  exact z46 [id] ⟨[], rows⟩ r (by simpa using hr)
theorem zer {i hm : Nat} {s : St} (h : z38 (s.env.getD i .any) = true) : bindAt .unk i hm s = s := by
  unfold bindAt
  split
  · rename_i r off n e
    rw [e] at h
    simp only [z38, Bool.not_eq_true'] at h
    rw [h]; rfl
  · rename_i r n e
    rw [e] at h
    simp only [z38, Bool.not_eq_true'] at h
    rw [h]; rfl
  · rename_i r sz n e
    rw [e] at h
    simp only [z38, Bool.not_eq_true'] at h
    rw [h]; rfl
  · rename_i k e
    rw [e] at h
    cases k <;> simp [z38] at h
    rfl
  · rfl
theorem z9t (hm : Nat → Nat) : ∀ (n i j : Nat) {s : St}, (∀ q, q < n → z38 (s.env.getD (i + q) .any) = true) → bindAll hm n i j s = s
  | 0, i, j, s, _ => rfl
  | n + 1, i, j, s, h => by
    rw [bindAll, zer (by have := h 0 (by omega); rwa [Nat.add_zero] at this)]
    exact z9t hm n (i + 1) (j + 1) fun q hq => by rw [show i + 1 + q = i + (q + 1) by omega]; exact h (q + 1) (by omega)
theorem zp4 {r off : Nat} {cells : List D} (hp : cells.all z38 = true) {env : List D} {rows : Nat → Option Row} {s : St} (h : z2u r off cells ⟨env, rows⟩ = some s) :
    ∃ rows', s = ⟨env, rows'⟩ ∧ (∀ env', z2u r off cells ⟨env', rows⟩ = some ⟨env', rows'⟩) ∧ ∀ q, q ≠ r → rows' q = rows q := by
  have hb : ∀ env' : List D, bindAll (fun j => home r (off + j)) cells.length env'.length 0 ((⟨env', rows⟩ : St).push (cells ++ [.ptr r off])) = (⟨env', rows⟩ : St).push (cells ++ [.ptr r off]) := fun env' => by
    refine z9t _ _ _ _ fun q hq => ?_
    have : ((⟨env', rows⟩ : St).push (cells ++ [.ptr r off])).env.getD (env'.length + q) .any = cells[q] := by
      simp only [St.push]
      rw [List.getD_eq_getElem?_getD, List.getElem?_append_right (by omega), Nat.add_sub_cancel_left, List.getElem?_append_left hq, List.getElem?_eq_getElem hq]
      rfl
    rw [this]
    exact (List.all_eq_true.1 hp) _ (List.getElem_mem hq)
  have hg : ∀ env' : List D, ((⟨env', rows⟩ : St).push (cells ++ [.ptr r off])).env.getD (env'.length + cells.length) .any = .ptr r off := fun env' => by
    simp only [St.push]
    rw [List.getD_eq_getElem?_getD, List.getElem?_append_right (by omega), Nat.add_sub_cancel_left, List.getElem?_append_right (by omega)]
    simp
  unfold z2u at h
  simp only at h
  rw [hb env, hg env] at h
  simp only at h
  split at h
  case h_2 => cases h
  rename_i old e2
  simp only [St.push] at e2
  split at h
  case isFalse => cases h
  rename_i hl
  have hc : ∀ env' : List D, (((⟨env', rows⟩ : St).push (cells ++ [.ptr r off])).cut env'.length) = ⟨env', rows⟩ := fun env' => by simp [St.push, St.cut]
  have hd : ∀ env' : List D, (((⟨env', rows⟩ : St).push (cells ++ [.ptr r off])).env.drop env'.length) = cells ++ [.ptr r off] := fun env' => by simp [St.push]
  rw [hc, hd] at h
  cases h
  refine ⟨_, rfl, fun env' => ?_, fun q hq => ?_⟩
  · unfold z2u
    simp only
    rw [hb env', hg env']
    simp only [St.push, e2, if_pos hl]
    have h1 := hc env'
    have h2 := hd env'
    simp only [St.push] at h1 h2
    rw [h1, h2]
    rfl
  · simp only [St.setRow, if_neg hq]
theorem zaw {o : Oper} (hc : z3w o = true) {env : List D} {rows : Nat → Option Row} {s : St} (h : stepG X cl ops o ⟨env, rows⟩ = some s) {tl : List Nat} (ht : touch X o ⟨env, rows⟩ = some tl) :
    ∃ (d : D) (is : List Nat) (rows' : Nat → Option Row), s = ⟨envD o.dst d (env.map (killAll is)), rows'⟩ ∧
      (∀ env', SameAt X o ⟨env, rows⟩ ⟨env', rows⟩ → stepG X cl ops o ⟨env', rows⟩ = some ⟨envD o.dst d (env'.map (killAll is)), rows'⟩) ∧
      ∀ r, r ∉ tl → r ∉ is ∧ rows' r = (rows r).map (rowKill is) := by
  have k0 : ∀ (e : List D), e.map (killAll []) = e := fun e => by
    have : killAll [] = id := by funext x; rfl
    rw [this]; simp
  have r0 : ∀ (x : Option Row), x = x.map (rowKill []) := fun x => by cases x <;> rfl
  unfold z3w at hc
  split at hc
  · -- a call
    rename_i g args at_ t hop hd hg
    rw [zdw hg hd hop] at h
    split at h
    case h_2 => cases h
    rename_i f cap hf
    split at h
    case isTrue => cases h
    rename_i hft
    obtain ⟨⟨d, s0⟩, hcall, rfl⟩ := Option.map_eq_some_iff.1 h
    obtain ⟨is, rows', hsh, hrow⟩ := zf1 hcall
    have e0 := hsh env
    rw [e0] at hcall
    cases hcall
    unfold touch at ht
    simp only [hop, hd, hf] at ht
    cases ht
    refine ⟨d, is, rows', by rw [hd]; rfl, fun env' hs => ?_, fun r hr => ?_⟩
    · have h1 := hs g (by rw [hop]; simp [Op.operands, Call.operands])
      have h2 : args.toList.map (ev X ⟨env', rows⟩) = args.toList.map (ev X ⟨env, rows⟩) := List.map_congr_left fun x hx => hs x (by rw [hop]; simp [Op.operands, Call.operands]; simp at hx; exact .inr hx)
      rw [zdw hg hd hop, h1, hf, hd]
      simp only
      rw [if_neg hft, h2, hsh env']
      rfl
    · rw [List.mem_append, not_or] at hr
      exact hrow r hr.1 hr.2
  · -- an append
    rename_i args at_ t hop hd hg
    rw [z9c hg hd hop] at h
    split at h
    case h_2 => cases h
    rename_i x y ta ty hargs hats
    have hxm : x ∈ o.op.operands.toList := by
      rw [hop]; simp [Op.operands, Call.operands]
      have : x ∈ args.toList := by rw [hargs]; simp
      simpa using this
    have hym : y ∈ o.op.operands.toList := by
      rw [hop]; simp [Op.operands, Call.operands]
      have : y ∈ args.toList := by rw [hargs]; simp
      simpa using this
    unfold touch at ht
    simp only [hop, hd, hargs] at ht
    have htl : nid t ∈ tl ∧ (∀ r q n, ev X ⟨env, rows⟩ x = .rsl r q n → isN (ev X ⟨env, rows⟩ y) = false → r ∈ tl) ∧ (∀ r n, ev X ⟨env, rows⟩ x = .nsl r n → isN (ev X ⟨env, rows⟩ y) = true → r ∈ tl) ∧ (∀ r n, ev X ⟨env, rows⟩ y = .nsl r n → r ∈ tl) ∧ ∀ r sz n, ev X ⟨env, rows⟩ x = .rcs r sz n → isN (ev X ⟨env, rows⟩ y) = false → r ∈ tl := by
      generalize ev X ⟨env, rows⟩ x = dx at *
      generalize ev X ⟨env, rows⟩ y = dy at *
      cases dx <;> cases dy <;> simp only [Option.some.injEq] at ht <;> subst ht <;> refine ⟨?_, ?_, ?_, ?_, ?_⟩ <;> first
        | (intro r sz n e1 e2; first | (simp [isN] at e2; done) | (cases e1; simp; done) | (cases e1; done))
        | (intro r n e1 e2; first | (simp [isN] at e2; done) | (cases e1; simp; done) | (cases e1; done))
        | (intro r n e1; first | (cases e1; simp; done) | (cases e1; done))
        | (simp; done)
    split at h
    · rename_i e ei sl z1 z2 z3 hel hty
      obtain ⟨⟨d, s0⟩, happd, rfl⟩ := Option.map_eq_some_iff.1 h
      obtain ⟨is, rows', hsh, hrow⟩ := zee happd
      have e0 := hsh env
      rw [e0] at happd
      cases happd
      refine ⟨d, is, rows', by rw [hd]; rfl, fun env' hs => ?_, fun r hr => hrow r (fun e => hr (e ▸ htl.1)) (fun r' q n e hy er => hr (er ▸ htl.2.1 r' q n e hy)) (fun r' n e hy er => hr (er ▸ htl.2.2.1 r' n e hy)) (fun r' n e er => hr (er ▸ htl.2.2.2.1 r' n e)) fun r' sz n e hy er => hr (er ▸ htl.2.2.2.2 r' sz n e hy)⟩
      rw [z9c hg hd hop]
      simp only [hargs, hats, hel, hty, hs x hxm, hs y hym, hsh env', hd]
      rfl
    · rename_i e ei sl z1 z2 z3 hel hty
      obtain ⟨⟨d, s0⟩, happd, rfl⟩ := Option.map_eq_some_iff.1 h
      unfold appendZ at happd
      split at happd
      case isFalse => cases happd
      rename_i hsz
      split at happd
      case h_2 => cases happd
      rename_i k kk n hx hy
      split at happd
      case isFalse => cases happd
      rename_i hn
      obtain ⟨c, hc0, hc1⟩ := Option.map_eq_some_iff.1 happd
      cases hc1
      refine ⟨_, [nid t], _, by rw [hd, z30]; rfl, fun env' hs => ?_, fun r hr => z69 _ _ _ fun e => hr (e ▸ htl.1)⟩
      rw [z9c hg hd hop]
      simp only [hargs, hats, hel, hty, hs x hxm, hs y hym]
      unfold appendZ
      rw [if_pos hsz]
      simp only [hx, hy, if_pos hn, hc0, Option.map_some, z30, hd]
      rfl
    · cases h
  · -- a literal
    rename_i ty n parts t hop hd hg
    have hst : ∀ st, stepG X cl ops o st = (match elemOf X ty with
      | some (e, ei) => if ei.size = 1 ∧ n ≤ 1000000 then
          match parts01 0 (parts.toList.map fun p => (p.1, ev X st p.2)) with
          | some ds => if ds.length = n then
              if nestAt X o e then (nestLit (nkElem X e) (nid t) ds st).map fun (r, s) => s.setD (some t) r else
              match emptyC (nkElem X e) with
              | some c0 => (buildC X (nkElem X e) ds c0 st).map fun (c, s) => (s.newRow (nid t) ⟨true, c⟩).setD (some t) (.rsl (nid t) 0 n)
              | none => none
            else none
          | none => none
        else if ei.agg = true ∧ n ≤ 1000 ∧ ei.size ≤ 1000 then
          match parts01 0 (parts.toList.map fun p => (p.1, ev X st p.2)), shOf X ei with
          | some ds, some sh => if ds.length = n ∧ sh.length = ei.size then
              if X.nestPos o.pos then (buildR sh ds st).map fun (ps, s) => (s.newRow (nid t) ⟨true, .recs sh ps⟩).setD (some t) (.rcs (nid t) sh.length n) else
              (buildR sh ds st).map fun (ps, s) => s.setD (some t) (.immR sh ps) else none
          | _, _ => none
        else none
      | none => none) := fun st => by
      have hw : wanted ops st o = .yes := by unfold wanted; rw [hg]
      unfold stepG
      rw [hw]
      simp only
      unfold step
      simp only [hop, hd]
      rfl
    rw [hst] at h
    unfold touch at ht
    simp only [hop, hd] at ht
    cases ht
    split at h
    case h_2 => cases h
    rename_i e ei hel
    split at h
    case isFalse =>
      rename_i hsz
      split at h
      case isFalse => cases h
      rename_i hag
      split at h
      case h_2 => cases h
      rename_i ds sh hds hsh
      split at h
      case isFalse => cases h
      rename_i hn
      have hdsv : ds = parts.toList.map fun p => ev X ⟨env, rows⟩ p.2 := by
        have : ∀ (l : List (Nat × D)) (k : Nat) (ds : List D), parts01 k l = some ds → ds = l.map (·.2) := by
          intro l
          induction l with
          | nil => intro k ds h; simp only [parts01] at h; cases h; rfl
          | cons p l ih =>
            intro k ds h
            obtain ⟨i, d⟩ := p
            simp only [parts01] at h
            split at h
            · obtain ⟨ds', h1, rfl⟩ := Option.map_eq_some_iff.1 h
              simp [ih _ _ h1]
            · cases h
        rw [this _ _ _ hds, List.map_map]
        rfl
      have hmap : ∀ e : List D, e.map (killAll []) = e := fun e => (List.map_congr_left fun d _ => rfl).trans (List.map_id _)
      split at h
      case isTrue =>
        rename_i hnp
        obtain ⟨⟨ps, s1⟩, hb, rfl⟩ := Option.map_eq_some_iff.1 h
        obtain ⟨rows1, rfl, b2, b3, b4⟩ := z7c hb
        refine ⟨.rcs (nid t) sh.length n, [nid t], _, by simp only [z30]; rw [hd]; rfl, fun env' hs => ?_, fun r hr => ?_⟩
        · rw [hst, hel]
          simp only
          have hp : parts.toList.map (fun p => (p.1, ev X ⟨env', rows⟩ p.2)) = parts.toList.map (fun p => (p.1, ev X ⟨env, rows⟩ p.2)) := List.map_congr_left fun p hp => by
            rw [hs p.2 (by rw [hop]; simp [Op.operands]; exact ⟨p.1, by simpa using hp⟩)]
          rw [if_neg hsz, if_pos hag, hp, hds, hsh]
          simp only [if_pos hn, if_pos hnp, b2 env', Option.map_some, z30]
          rw [hd]; rfl
        · simp only [List.mem_cons, not_or] at hr
          obtain ⟨h1, h2⟩ := z69 (nid t) ⟨true, .recs sh ps⟩ rows1 hr.1
          refine ⟨h1, h2.trans ?_⟩
          rw [b3 r fun d hd' => ?_]
          rw [hdsv] at hd'
          obtain ⟨p, hp, rfl⟩ := List.mem_map.1 hd'
          exact fun hm => hr.2 (List.mem_flatten.2 ⟨_, List.mem_map.2 ⟨p, hp, rfl⟩, hm⟩)
      rename_i hnp
      obtain ⟨⟨ps, s1⟩, hb, rfl⟩ := Option.map_eq_some_iff.1 h
      obtain ⟨rows1, rfl, b2, b3, b4⟩ := z7c hb
      refine ⟨.immR sh ps, [], rows1, by rw [hmap, hd]; rfl, fun env' hs => ?_, fun r hr => ?_⟩
      · rw [hst, hel]
        simp only
        have hp : parts.toList.map (fun p => (p.1, ev X ⟨env', rows⟩ p.2)) = parts.toList.map (fun p => (p.1, ev X ⟨env, rows⟩ p.2)) := List.map_congr_left fun p hp => by
          rw [hs p.2 (by rw [hop]; simp [Op.operands]; exact ⟨p.1, by simpa using hp⟩)]
        rw [if_neg hsz, if_pos hag, hp, hds, hsh]
        simp only [if_pos hn, if_neg hnp, b2 env', Option.map_some]
        rw [hmap, hd]; rfl
      · simp only [List.mem_cons, not_or] at hr
        refine ⟨by simp, ?_⟩
        rw [b3 r fun d hd' => ?_]
        · cases rows r <;> rfl
        · rw [hdsv] at hd'
          obtain ⟨p, hp, rfl⟩ := List.mem_map.1 hd'
          exact fun hm => hr.2 (List.mem_flatten.2 ⟨_, List.mem_map.2 ⟨p, hp, rfl⟩, hm⟩)
    rename_i hsz
    split at h
    case h_2 => cases h
    rename_i ds hds
    split at h
    case isFalse => cases h
    rename_i hn
    have hdsv0 : ds = parts.toList.map fun p => ev X ⟨env, rows⟩ p.2 := by
      have : ∀ (l : List (Nat × D)) (k : Nat) (ds : List D), parts01 k l = some ds → ds = l.map (·.2) := by
        intro l
        induction l with
        | nil => intro k ds h; simp only [parts01] at h; cases h; rfl
        | cons p l ih =>
          intro k ds h
          obtain ⟨i, d⟩ := p
          simp only [parts01] at h
          split at h
          · obtain ⟨ds', h1, rfl⟩ := Option.map_eq_some_iff.1 h
            simp [ih _ _ h1]
          · cases h
      rw [this _ _ _ hds, List.map_map]
      rfl
    split at h
    case isTrue =>
      rename_i hnp
      obtain ⟨⟨d, s0⟩, hb, rfl⟩ := Option.map_eq_some_iff.1 h
      obtain ⟨is, rows', hsh, hrow⟩ := zk8 hb
      have e0 := hsh env
      rw [e0] at hb
      cases hb
      refine ⟨d, is, rows', by rw [hd]; rfl, fun env' hs => ?_, fun r hr => ?_⟩
      · rw [hst, hel]
        simp only
        have hp : parts.toList.map (fun p => (p.1, ev X ⟨env', rows⟩ p.2)) = parts.toList.map (fun p => (p.1, ev X ⟨env, rows⟩ p.2)) := List.map_congr_left fun p hp => by
          rw [hs p.2 (by rw [hop]; simp [Op.operands]; exact ⟨p.1, by simpa using hp⟩)]
        rw [if_pos hsz, hp, hds]
        simp only [if_pos hn, if_pos hnp, hsh env', Option.map_some]
        rw [hd]; rfl
      · simp only [List.mem_cons, not_or] at hr
        refine hrow r hr.1 fun x hx hm => ?_
        rw [hdsv0] at hx
        obtain ⟨p, hp, rfl⟩ := List.mem_map.1 hx
        exact hr.2 (List.mem_flatten.2 ⟨_, List.mem_map.2 ⟨p, hp, rfl⟩, zk2 hm⟩)
    rename_i hnp
    split at h
    case h_2 => cases h
    rename_i c0 hc0
    obtain ⟨⟨c, s1⟩, hb, rfl⟩ := Option.map_eq_some_iff.1 h
    obtain ⟨rows1, rfl, b2, b3, b4⟩ := za1 hb
    have hdsv : ds = parts.toList.map fun p => ev X ⟨env, rows⟩ p.2 := by
      have : ∀ (l : List (Nat × D)) (k : Nat) (ds : List D), parts01 k l = some ds → ds = l.map (·.2) := by
        intro l
        induction l with
        | nil => intro k ds h; simp only [parts01] at h; cases h; rfl
        | cons p l ih =>
          intro k ds h
          obtain ⟨i, d⟩ := p
          simp only [parts01] at h
          split at h
          · obtain ⟨ds', h1, rfl⟩ := Option.map_eq_some_iff.1 h
            simp [ih _ _ h1]
          · cases h
      rw [this _ _ _ hds, List.map_map]
      rfl
    refine ⟨.rsl (nid t) 0 n, [nid t], _, by simp only [z30]; rw [hd]; rfl, fun env' hs => ?_, fun r hr => ?_⟩
    · rw [hst, hel]
      simp only
      have hp : parts.toList.map (fun p => (p.1, ev X ⟨env', rows⟩ p.2)) = parts.toList.map (fun p => (p.1, ev X ⟨env, rows⟩ p.2)) := List.map_congr_left fun p hp => by
        rw [hs p.2 (by rw [hop]; simp [Op.operands]; exact ⟨p.1, by simpa using hp⟩)]
      rw [if_pos hsz, hp, hds]
      simp only [if_pos hn, if_neg hnp, hc0, b2 env', Option.map_some, z30]
      rw [hd]; rfl
    · simp only [List.mem_cons, not_or] at hr
      obtain ⟨h1, h2⟩ := z69 (nid t) ⟨true, c⟩ rows1 hr.1
      refine ⟨h1, h2.trans ?_⟩
      rw [b3 r fun d hd' => ?_]
      rw [hdsv] at hd'
      obtain ⟨p, hp, rfl⟩ := List.mem_map.1 hd'
      exact fun hm => hr.2 (List.mem_flatten.2 ⟨_, List.mem_map.2 ⟨p, hp, rfl⟩, hm⟩)
  · -- a make
    rename_i ty l c t hop hd hg
    have hst : ∀ st, stepG X cl ops o st = (match elemOf X ty, ev X st l, ev X st c with
      | some (e, ei), .int _ n, .int _ m => if ei.size = 1 ∧ ei.bytes ≤ 64 ∧ 0 ≤ n ∧ n ≤ m ∧ m ≤ lim then
          if nestAt X o e then (z29 (nkElem X e) ei.zero (nid t) n.toNat st).map fun (r, s) => s.setD (some t) r else
          (zeroC (nkElem X e) ei.zero n.toNat).map fun c => (st.newRow (nid t) ⟨true, c⟩).setD (some t) (.rsl (nid t) 0 n.toNat)
        else if ei.agg = true ∧ X.nestPos o.pos = true ∧ (0 < ei.size ∧ ei.size ≤ 1000) ∧ ei.bytes ≤ 128 ∧ 0 ≤ n ∧ n ≤ m ∧ m ≤ lim then match shOf X ei with
          | some sh => if sh.length = ei.size then (recMake sh ei.zero (nid t) n.toNat st).map fun (r, s) => s.setD (some t) r else none
          | none => none
        else none
      | _, _, _ => none) := fun st => by
      have hw : wanted ops st o = .yes := by unfold wanted; rw [hg]
      unfold stepG
      rw [hw]
      simp only
      unfold step
      simp only [hop, hd]
      rfl
    rw [hst] at h
    unfold touch at ht
    simp only [hop, hd] at ht
    cases ht
    split at h
    case h_2 => cases h
    rename_i e ei _ n _ m hel hl hcp
    split at h
    case isFalse =>
      rename_i hnc
      split at h
      case isFalse => cases h
      rename_i hcond
      split at h
      case h_2 => cases h
      rename_i sh hsh
      split at h
      case isFalse => cases h
      rename_i hlen
      obtain ⟨⟨d, s0⟩, hb, rfl⟩ := Option.map_eq_some_iff.1 h
      obtain ⟨is, rows', hshp, hrow⟩ := zl3 hb
      have e0 := hshp env
      rw [e0] at hb
      cases hb
      refine ⟨d, is, rows', by rw [hd]; rfl, fun env' hs => ?_, fun r hr => hrow r (by simpa using hr)⟩
      rw [hst, hel, hs l (by rw [hop]; simp [Op.operands]), hs c (by rw [hop]; simp [Op.operands]), hl, hcp]
      simp only [if_neg hnc, if_pos hcond, hsh, if_pos hlen, hshp env', Option.map_some]
      rw [hd]; rfl
    rename_i hcond
    split at h
    case isTrue =>
      rename_i hnp
      obtain ⟨⟨d, s0⟩, hb, rfl⟩ := Option.map_eq_some_iff.1 h
      obtain ⟨is, rows', hsh, hrow⟩ := zkb hb
      have e0 := hsh env
      rw [e0] at hb
      cases hb
      refine ⟨d, is, rows', by rw [hd]; rfl, fun env' hs => ?_, fun r hr => hrow r (by simpa using hr)⟩
      rw [hst, hel, hs l (by rw [hop]; simp [Op.operands]), hs c (by rw [hop]; simp [Op.operands]), hl, hcp]
      simp only [if_pos hcond, if_pos hnp, hsh env', Option.map_some]
      rw [hd]; rfl
    rename_i hnp
    obtain ⟨cc, hz, rfl⟩ := Option.map_eq_some_iff.1 h
    refine ⟨_, [nid t], _, by rw [z30, hd]; rfl, fun env' hs => ?_, fun r hr => z69 _ _ _ (by simpa using hr)⟩
    rw [hst, hel, hs l (by rw [hop]; simp [Op.operands]), hs c (by rw [hop]; simp [Op.operands]), hl, hcp]
    simp only [if_pos hcond, if_neg hnp, hz, Option.map_some, z30]
    rw [hd]; rfl
  · -- a store
    rename_i ty ad x hop hd hg
    have hst : ∀ st, stepG X cl ops o st = (match X.tt ty with
      | some i => storeD X st i (ev X st ad) (ev X st x)
      | none => none) := fun st => by
      have hw : wanted ops st o = .yes := by unfold wanted; rw [hg]
      unfold stepG
      rw [hw]
      simp only
      unfold step
      simp only [hop, hd]
      rfl
    have ha : ad ∈ o.op.operands.toList := by rw [hop]; simp [Op.operands]
    have hx : x ∈ o.op.operands.toList := by rw [hop]; simp [Op.operands]
    rw [hst] at h
    unfold touch at ht
    simp only [hop, hd] at ht
    split at h
    case h_2 => cases h
    rename_i i hti
    unfold storeD at h
    split at h
    · rename_i r off e
      rw [e] at ht
      simp only at ht
      split at ht
      case isFalse => cases ht
      rename_i hp
      cases ht
      split at h
      case isFalse => cases h
      rename_i hcond
      obtain ⟨rows', rfl, g2, g3⟩ := zp4 hp h
      refine ⟨.any, [], rows', by rw [hd, k0]; rfl, fun env' hs => ?_, fun q hq => ⟨by simp, by rw [← r0]; exact g3 q (by simpa using hq)⟩⟩
      rw [hst, hti, hs ad ha, hs x hx, e]
      simp only
      unfold storeD
      simp only [if_pos hcond, g2 env', hd, k0]
      rfl
    · rename_i r j e
      rw [e] at ht
      simp only at ht
      cases ht
      split at h
      case isFalse => cases h
      rename_i hcond
      split at h
      case h_2 => cases h
      rename_i d s1 hs1
      obtain ⟨rows1, rfl, g2, g3, g4⟩ := z6j hs1
      split at h
      case h_2 => cases h
      rename_i c hr
      split at h
      case isTrue => cases h
      rename_i hv
      obtain ⟨c', hc', rfl⟩ := Option.map_eq_some_iff.1 h
      refine ⟨.any, [], fun i => if i = r then some ⟨true, c'⟩ else rows1 i, by rw [hd, k0]; rfl, fun env' hs => ?_, fun q hq => ?_⟩
      · rw [hst, hti, hs ad ha, hs x hx, e]
        simp only
        unfold storeD
        simp only at hr
        simp only [if_pos hcond, g2 env', hr, if_neg hv, hc', Option.map_some, hd, k0]
        rfl
      · simp only [List.mem_cons, not_or] at hq
        refine ⟨by simp, ?_⟩
        rw [← r0]
        simp only [if_neg hq.1]
        exact g3 q hq.2
    · rename_i r j p e
      rw [e] at ht
      simp only at ht
      cases ht
      split at h
      case isFalse => cases h
      rename_i hcond
      split at h
      case h_2 => cases h
      rename_i k xss k' x' hr hxv
      split at h
      case isFalse => cases h
      rename_i hc
      cases h
      refine ⟨.any, [], fun i => if i = r then some ⟨true, .nest k (xss.set j ((xss.getD j []).set p x'))⟩ else rows i, by rw [hd, k0]; rfl, fun env' hs => ?_, fun q hq => ?_⟩
      · rw [hst, hti, hs ad ha, hs x hx, e, hxv]
        simp only
        unfold storeD
        simp only at hr
        simp only [if_pos hcond, hr, if_pos hc, hd, k0]
        rfl
      · simp only [List.mem_cons, not_or] at hq
        refine ⟨by simp, ?_⟩
        rw [← r0]
        simp only [if_neg hq.1]
    · rename_i r j e
      rw [e] at ht
      simp only at ht
      cases ht
    · rename_i r sz j f e
      rw [e] at ht
      simp only at ht
      cases ht
      split at h
      case h_2 => cases h
      rename_i d s1 hs1
      obtain ⟨rows1, rfl, g2, g3, g4⟩ := z6j hs1
      split at h
      case h_2 => cases h
      rename_i sh ps hr
      split at h
      case isFalse => cases h
      rename_i hcc
      obtain ⟨p, hp, rfl⟩ := Option.map_eq_some_iff.1 h
      refine ⟨.any, [], fun i => if i = r then some ⟨true, .recs sh (ps.set j p)⟩ else rows1 i, by rw [hd, k0]; rfl, fun env' hs => ?_, fun q hq => ?_⟩
      · rw [hst, hti, hs ad ha, hs x hx, e]
        simp only
        unfold storeD
        simp only at hr
        simp only [g2 env', hr, if_pos hcc, hp, Option.map_some, hd, k0]
        rfl
      · simp only [List.mem_cons, not_or] at hq
        refine ⟨by simp, ?_⟩
        rw [← r0]
        simp only [if_neg hq.1]
        exact g3 q hq.2
    · cases h
  · cases hc
theorem z7h {l m : List Nat} : disj (some l) (some m) = true ↔ ∀ r ∈ l, r ∉ m := by
  unfold disj
  simp
theorem z7g {x y : Option (List Nat)} (h : disj x y = true) : disj y x = true := by
  cases x with
  | none => cases h
  | some l => cases y with
    | none => cases h
    | some m =>
      rw [z7h] at h ⊢
      exact fun r hr hl => h r hl hr
theorem z1w {i : Nat} {x : Option (List Nat)} {f : Nat → Option (Option (List Nat))} : ∀ {n : Nat}, fits clo i x f n = true ↔ ∀ k, k < n → waitsB clo k i = false → ∀ y, f k = some y → disj x y = true
  | 0 => by simp [fits]
  | n + 1 => by
    simp only [fits, Bool.and_eq_true, Bool.or_eq_true]
    rw [z1w (n := n)]
    constructor
    · rintro ⟨h1, h2⟩ k hk hw y hy
      by_cases e : k = n
      · subst e
        rcases h1 with h1 | h1
        · rw [hw] at h1; cases h1
        · rw [hy] at h1; exact h1
      · exact h2 k (by omega) hw y hy
    · intro h
      refine ⟨?_, fun k hk => h k (by omega)⟩
      cases hw : waitsB clo n i with
      | true => exact .inl rfl
      | false =>
        refine .inr ?_
        cases hf : f n with
        | none => rfl
        | some y => exact h n (by omega) hw y hf
def stepIQ (X : Ctx) (cl : FuncId → List D → List Row → Option Ret) (ops : Array Oper) (clo : List Nat) (i : Nat) (s : SQ) : Option SQ :=
  match ops[i]? with
  | some o => stepQ X cl ops clo i o s
  | none => none
theorem z58 {o : Oper} (h : seqRd X ops o = true) : o.guard = none ∧ (∃ t, o.dst = some t) ∧ True := by
  unfold seqRd at h
  rw [Bool.or_eq_true] at h
  rcases h with h | h
  · unfold isLit at h
    rw [Bool.and_eq_true] at h
    refine ⟨by simpa using h.1, ?_, trivial⟩
    have h2 := h.2
    split at h2
    · rename_i d _ hd; exact ⟨_, hd⟩
    · cases h2
  · obtain ⟨h1, h2, _⟩ := zm4 h
    exact ⟨h1, h2, trivial⟩
theorem hard_0 {o : Oper} (h : seqHard X ops o = true) : z3w o = true := by
  unfold seqHard at h
  rw [Bool.and_eq_true] at h
  exact h.2
theorem zg4 {o : Oper} (h : z3w o = true) : seqRd0 o = false := by
  unfold z3w at h
  split at h
  · rename_i hop _ _; unfold seqRd0; simp [hop, cls]
  · rename_i hop _ _; unfold seqRd0; simp [hop, cls]
  · rename_i hop _ _; unfold seqRd0; simp [hop, cls]
  · rename_i hop _ _; unfold seqRd0; simp [hop, cls]
  · rename_i hop _ _; unfold seqRd0; simp [hop, cls]
  · cases h
theorem hard_rd {o : Oper} (h : seqHard X ops o = true) : seqRd X ops o = false := by
  have h0 := zg4 (hard_0 h)
  unfold seqHard at h
  rw [Bool.and_eq_true] at h
  unfold seqRd
  rw [h0, Bool.or_false]
  simpa using h.1
theorem fr_rd {o : Oper} (h : seqFr X ops o = true) : seqRd X ops o = true := by
  unfold seqFr at h
  unfold seqRd
  rw [Bool.or_eq_true] at h ⊢
  rcases h with h | h
  · exact .inl h
  · refine .inr ?_
    unfold seqFr0 at h
    rw [Bool.and_eq_true] at h
    exact h.1
theorem zju (hX : XOK P X) (h : SR X.glob F w0 M0 w M mu a.tmps st) {o : Oper} {d : D} (hq : litD X st o = some d) : ∃ v w', Keeps (fun _ => False) w w' ∧ (execOp a.eval o).run P w = .ok (.value v) w' ∧ Rep w' M mu d v := by
  unfold litD at hq
  split at hq
  case h_2 => cases hq
  rename_i t n parts hop
  split at hq
  case h_2 => cases hq
  rename_i e ei hel
  split at hq
  case isFalse => cases hq
  rename_i hsz
  split at hq
  case h_2 => cases hq
  rename_i ds hds
  split at hq
  case isFalse => cases hq
  rename_i hn
  split at hq
  case h_2 => cases hq
  rename_i k hk
  obtain ⟨xs, hx, rfl⟩ := Option.map_eq_some_iff.1 hq
  obtain ⟨hu, he⟩ := z17 hX hel
  obtain ⟨hdsv, hidx⟩ := z3s parts.toList 0 ds hds
  have hreps : RepL w M mu ds (parts.toList.map fun p => a.eval p.2) := by
    rw [hdsv]
    have : ∀ (ps : List (Nat × Operand)), RepL w M mu (ps.map fun p => ev X st p.2) (ps.map fun p => a.eval p.2) := by
      intro ps
      induction ps with
      | nil => simp only [List.map, RepL]
      | cons p ps ih => simp only [List.map, RepL]; exact ⟨ev_rep h p.2, ih⟩
    exact this _
  have hvl : (parts.toList.map fun p => a.eval p.2).length = n := by rw [← hreps.length]; exact hn
  have hb : buildI (nkElem X e) ds = some (.ints k xs) := by rw [hk]; simp only [buildI, hx, Option.map_some]
  obtain ⟨g1, g2, g3⟩ := za2 hb hreps
  have g4 : ∀ v ∈ parts.toList.map (fun p => a.eval p.2), v.oneCell' = true := g1.one
  have hrun : (execOp a.eval o).run P w = .ok (.value (.slice (some ⟨w.heap.size, 0, none⟩) n n)) (w.alloc (.cells (parts.toList.map fun p => a.eval p.2).toArray e)) := by
    have := z5f (P := P) (w := w) hX hu he hsz.1 g4 (by rw [hvl]; exact hsz.2) (parts.map fun (i, x) => (i, a.eval x)) (by
      have hz := z40 a.eval parts.toList 0 hidx
      rw [← hz]
      simp)
    rw [hvl] at this
    simp [execOp, hop, this]
  refine ⟨_, _, Keeps.alloc _ w _, hrun, ?_⟩
  simp only [ContRep] at g1
  simp only [Rep]
  refine ⟨some ⟨w.heap.size, 0, none⟩, n, ?_, ?_, .inr ⟨_, rfl, fun hm => absurd (h.mlt _ hm) (Nat.lt_irrefl _), fun j hj => ?_⟩⟩
  · rw [← g1, hvl]
  · rw [← g1, hvl]; exact Nat.le_refl _
  · rw [zb]
    simp only [World.cell?, zy, Nat.zero_add]
    rw [← g1]
    simp
theorem z37 {i t : Nat} {o : Oper} (h : seqRd X ops o = true) (hd : o.dst = some t) {s s' : SQ} : stepQ X cl ops clo i o s = some s' ↔
    (fits clo i (rdRefs X ops o s.st) s.T ops.size = true ∧ ∃ d, quietL X ops ⟨keepEnv (o.looksAt ops) 0 s.st.env, s.st.rows⟩ o = some d ∧ s' = ⟨⟨s.st.env.set t d, s.st.rows⟩, updQ s.R i (rdRefs X ops o s.st), s.T⟩) := by
  unfold stepQ
  rw [if_pos h]
  simp only [Option.ite_none_right_eq_some, Option.map_eq_some_iff, hd, St.setD]
  constructor
  · rintro ⟨h1, d, h2, h3⟩; exact ⟨h1, d, h2, h3.symm⟩
  · rintro ⟨h1, d, h2, h3⟩; exact ⟨h1, d, h2, h3.symm⟩
theorem z6x {i : Nat} {o : Oper} (h : seqHard X ops o = true) {s s' : SQ} : stepQ X cl ops clo i o s = some s' ↔
    (fits clo i (touch X o s.st) s.R ops.size = true ∧ ∃ st, stepG X cl ops o s.st = some st ∧ s' = ⟨st, s.R, updQ s.T i (touch X o s.st)⟩) := by
  unfold stepQ
  rw [hard_rd h, if_neg (by decide), if_pos h]
  simp only [Option.ite_none_right_eq_some, Option.map_eq_some_iff]
  constructor
  · rintro ⟨h1, d, h2, h3⟩; exact ⟨h1, d, h2, h3.symm⟩
  · rintro ⟨h1, d, h2, h3⟩; exact ⟨h1, d, h2, h3.symm⟩
theorem z4l {o : Oper} {t : Nat} (h : t ∉ o.looksAt ops) (d : D) (env : List D) (rows : Nat → Option Row) : SameAt X o ⟨env, rows⟩ ⟨env.set t d, rows⟩ := fun x hx => ev_set (zjx h hx)
theorem zkw {o : Oper} {st st' : St} (h : SameAt X o st st') (hr : st'.rows = st.rows) : rdRefs0 X o st' = rdRefs0 X o st := by
  unfold rdRefs0
  rw [h.vs]
  have : loadOKO X o st' = loadOKO X o st := by
    unfold loadOKO
    split
    · rename_i t x hop
      rw [h x (by rw [hop]; simp [Op.operands]), hr]
    · rfl
  rw [this]
theorem z67 {o : Oper} {st st' : St} (h : SameAt X o st st') : litD X st' o = litD X st o := by
  unfold litD
  split
  · rename_i t n parts hop
    have hp : parts.toList.map (fun p => (p.1, ev X st' p.2)) = parts.toList.map (fun p => (p.1, ev X st p.2)) := List.map_congr_left fun p hp => by
      rw [h p.2 (by rw [hop]; simp [Op.operands]; exact ⟨p.1, by simpa using hp⟩)]
    rw [hp]
  · rfl
theorem z6c {o : Oper} {st st' : St} (h : SameAt X o st st') (hr : st'.rows = st.rows) : rdRefs X ops o st' = rdRefs X ops o st := by
  unfold rdRefs
  rw [z67 h, zkw h hr]
theorem zbt {o : Oper} {env : List D} {rows rows' : Nat → Option Row} : litD X ⟨keepEnv (o.looksAt ops) 0 env, rows'⟩ o = litD X ⟨env, rows⟩ o :=
  z67 fun x hx => by rw [ev_keep hx]; cases x <;> rfl
theorem zbc {k : IntKind} : ∀ {ds : List D} {xs : List Int}, intsD k ds = some xs → ∀ d ∈ ds, ∃ n, d = .int k n
  | [], xs, h, d, hd => by cases hd
  | d0 :: ds, xs, h, d, hd => by
    cases d0 with
    | int k' n =>
      simp only [intsD] at h
      split at h
      · rename_i e
        obtain ⟨ys, h1, _⟩ := Option.map_eq_some_iff.1 h
        rcases List.mem_cons.1 hd with rfl | hd
        · exact ⟨n, by rw [e]⟩
        · exact zbc h1 d hd
      · cases h
    | _ => simp [intsD] at h
theorem zkr : ∀ (l : List (Nat × D)) (k : Nat) (ds : List D), parts01 k l = some ds → ds = l.map (·.2) := by
  intro l
  induction l with
  | nil => intro k ds h; simp only [parts01] at h; cases h; rfl
  | cons p l ih =>
    intro k ds h
    obtain ⟨i, d⟩ := p
    simp only [parts01] at h
    split at h
    · obtain ⟨ds', h1, rfl⟩ := Option.map_eq_some_iff.1 h
      simp [ih _ _ h1]
    · cases h
theorem z8b {o : Oper} {st : St} {d : D} (h : litD X st o = some d) : (∃ k xs, d = .immI k xs) ∧ ∀ x ∈ o.op.operands.toList, ∃ k n, ev X st x = .int k n := by
  unfold litD at h
  split at h
  case h_2 => cases h
  rename_i t n parts hop
  split at h
  case h_2 => cases h
  split at h
  case isFalse => cases h
  split at h
  case h_2 => cases h
  rename_i ds hds
  split at h
  case isFalse => cases h
  split at h
  case h_2 => cases h
  rename_i k hk
  obtain ⟨xs, hx, rfl⟩ := Option.map_eq_some_iff.1 h
  refine ⟨⟨k, xs, rfl⟩, fun x hxm => ?_⟩
  have hv := zkr _ _ _ hds
  rw [hop] at hxm
  simp only [Op.operands, Array.toList_map, List.mem_map] at hxm
  obtain ⟨p, hp, rfl⟩ := hxm
  have hm : ev X st p.2 ∈ ds := by rw [hv, List.map_map]; exact List.mem_map.2 ⟨p, hp, rfl⟩
  obtain ⟨m, e⟩ := zbc hx _ hm
  exact ⟨k, m, e⟩
theorem zjt {o : Oper} {env : List D} {rows rows' : Nat → Option Row} {is : List Nat} {d : D} (h : litD X ⟨env, rows⟩ o = some d) : SameAt X o ⟨env, rows⟩ ⟨env.map (killAll is), rows'⟩ := fun x hx => by
  obtain ⟨k, n, e⟩ := (z8b h).2 x hx
  cases x with
  | tmp s =>
    simp only [ev] at e ⊢
    rw [z50, e, z10]
  | _ => rfl
theorem zjs {o : Oper} {env : List D} {rows rows' : Nat → Option Row} {is : List Nat} {d : D} (h : litD X ⟨env.map (killAll is), rows'⟩ o = some d) : SameAt X o ⟨env, rows⟩ ⟨env.map (killAll is), rows'⟩ := fun x hx => by
  obtain ⟨k, n, e⟩ := (z8b h).2 x hx
  cases x with
  | tmp s =>
    simp only [ev] at e ⊢
    rw [z50] at e ⊢
    exact z7z is _ (by rw [e]; rfl)
  | _ => rfl
theorem rd_kill {o : Oper} {env : List D} {rows rows' : Nat → Option Row} {is refs : List Nat} (hr : rdRefs X ops o ⟨env, rows⟩ = some refs) (hk : ∀ r ∈ refs, r ∉ is ∧ rows' r = (rows r).map (rowKill is)) :
    rdRefs X ops o ⟨env.map (killAll is), rows'⟩ = some refs ∧
    quietL X ops ⟨keepEnv (o.looksAt ops) 0 (env.map (killAll is)), rows'⟩ o = (quietL X ops ⟨keepEnv (o.looksAt ops) 0 env, rows⟩ o).map (killAll is) := by
  unfold rdRefs at hr ⊢
  unfold quietL
  cases hl : isLit X ops o with
  | false =>
    rw [hl, if_neg (by decide)] at hr
    rw [if_neg (by decide), if_neg (by decide), if_neg (by decide)]
    exact zkx hr hk
  | true =>
    rw [hl, if_pos rfl] at hr
    rw [if_pos rfl, if_pos rfl, if_pos rfl]
    cases hd : litD X ⟨env, rows⟩ o with
    | none => rw [hd] at hr; cases hr
    | some d =>
      rw [hd] at hr
      have e1 := z67 (zjt (rows' := rows') (is := is) hd)
      have e2 : litD X ⟨keepEnv (o.looksAt ops) 0 env, rows⟩ o = litD X ⟨env, rows⟩ o := zbt
      have e3 : litD X ⟨keepEnv (o.looksAt ops) 0 (env.map (killAll is)), rows'⟩ o = litD X ⟨env.map (killAll is), rows'⟩ o := zbt
      refine ⟨by rw [e1, hd]; exact hr, ?_⟩
      rw [e3, e1, e2, hd]
      obtain ⟨k, xs, rfl⟩ := (z8b hd).1
      simp only [Option.map_some]
      rw [zk is _ fun r hr => by simp [D.refs] at hr]
theorem zpa {f : Nat → Option (Option (List Nat))} {i k : Nat} (h : i ≠ k) (x y : Option (List Nat)) : updQ (updQ f i x) k y = updQ (updQ f k y) i x := by
  funext j
  unfold updQ
  by_cases h1 : j = k
  · by_cases h2 : j = i
    · exact (h (h2.symm.trans h1)).elim
    · rw [if_pos h1, if_neg h2, if_pos h1]
  · rw [if_neg h1]
    by_cases h2 : j = i
    · rw [if_pos h2, if_pos h2]
    · rw [if_neg h2, if_neg h2, if_neg h1]
theorem zam {dst : Option Tmp} {t : Nat} (h : dst ≠ some t) (d e : D) (env : List D) : envD dst d (env.set t e) = (envD dst d env).set t e := by
  cases dst with
  | none => rfl
  | some u =>
    have : u ≠ t := fun e => h (by rw [e])
    exact (List.set_comm _ _ this).symm
theorem zbf {o : Oper} {dst : Option Tmp} (d : D) (env : List D) (h : ∀ t, dst = some t → t ∉ o.looksAt ops) : keepEnv (o.looksAt ops) 0 (envD dst d env) = keepEnv (o.looksAt ops) 0 env := z7x d h
theorem zcx {o : Oper} {dst : Option Tmp} (d : D) (env : List D) (rows : Nat → Option Row) (h : ∀ t, dst = some t → t ∉ o.looksAt ops) : SameAt X o ⟨env, rows⟩ ⟨envD dst d env, rows⟩ := by
  cases dst with
  | none => intro x _; rfl
  | some t => exact z4l (h t rfl) d env rows
theorem rd_hard {m h : Nat} {om oh : Oper} (hms : m < ops.size) (hhs : h < ops.size) (hw1 : waitsB clo h m = false) (hw2 : waitsB clo m h = false) (hm : seqFr X ops om = true) (hh : seqHard X ops oh = true)
    (a1 : ∀ d, om.dst = some d → d ∉ oh.looksAt ops) (a2 : ∀ d, om.dst = some d → oh.dst ≠ some d) (a3 : ∀ d, oh.dst = some d → d ∉ om.looksAt ops) {s b s2 : SQ} (hR : s.R m = none) (hT : s.T h = none)
    (h1 : stepQ X cl ops clo m om s = some b) (h2 : stepQ X cl ops clo h oh b = some s2) : ∃ b, stepQ X cl ops clo h oh s = some b ∧ stepQ X cl ops clo m om b = some s2 := by
  obtain ⟨hg, ⟨t, hd⟩, _⟩ := z58 (fr_rd hm)
  obtain ⟨⟨env, rows⟩, R, T⟩ := s
  simp only at hR hT
  rw [z37 (fr_rd hm) hd] at h1
  obtain ⟨f1, v, hv, rfl⟩ := h1
  rw [z6x hh] at h2
  obtain ⟨f2, st2, hst, rfl⟩ := h2
  simp only at f1 f2 hv hst
  have hsame : SameAt X oh ⟨env, rows⟩ ⟨env.set t v, rows⟩ := z4l (a1 t hd) v env rows
  have htouch := ze5 hsame
  rw [htouch] at f2
  have hd0 := z1w.1 f2 m hms hw2 (rdRefs X ops om ⟨env, rows⟩) (by unfold updQ; rw [if_pos rfl])
  cases ht : touch X oh ⟨env, rows⟩ with
  | none => rw [ht] at hd0; cases hd0
  | some tl =>
    cases hr : rdRefs X ops om ⟨env, rows⟩ with
    | none => rw [ht, hr] at hd0; cases hd0
    | some refs =>
      rw [ht, hr] at hd0
      rw [hr] at f1
      rw [ht] at f2
      have hdj := z7h.1 (z7g hd0)
      obtain ⟨d, is, rows', rfl, g2, g3⟩ := zaw (hard_0 hh) hst (htouch.trans ht)
      have e1 := g2 env fun x hx => (hsame x hx).symm
      obtain ⟨q2, q3⟩ := rd_kill (ops := ops) hr (is := is) (rows' := rows') fun r hr => g3 r (hdj r hr)
      have hs2 : SameAt X om ⟨env.map (killAll is), rows'⟩ ⟨envD oh.dst d (env.map (killAll is)), rows'⟩ := zcx d _ _ a3
      have hr2 : rdRefs X ops om ⟨envD oh.dst d (env.map (killAll is)), rows'⟩ = some refs := (z6c hs2 rfl).trans q2
      refine ⟨⟨⟨envD oh.dst d (env.map (killAll is)), rows'⟩, R, updQ T h (some tl)⟩, ?_, ?_⟩
      · rw [z6x hh]
        refine ⟨?_, _, e1, by rw [ht]⟩
        rw [z1w]
        intro k hk hw y hy
        rw [ht]
        simp only at hy
        by_cases e : k = m
        · subst e; rw [show R k = none from hR] at hy; cases hy
        · exact z1w.1 f2 k hk hw y (by unfold updQ; rw [if_neg e]; exact hy)
      · rw [z37 (fr_rd hm) hd]
        refine ⟨?_, killAll is v, ?_, ?_⟩
        · rw [z1w]
          intro k hk hw y hy
          rw [hr2]
          simp only at hy
          unfold updQ at hy
          by_cases e : k = h
          · rw [if_pos e] at hy; cases hy; exact z7g hd0
          · rw [if_neg e] at hy; exact z1w.1 f1 k hk hw y hy
        · simp only
          rw [zbf d _ a3, q3, hv]
          rfl
        · simp only
          rw [hr2, zd4, zam (a2 t hd), htouch, ht]
theorem zg5 {m h : Nat} {om oh : Oper} (hms : m < ops.size) (hhs : h < ops.size) (hw1 : waitsB clo h m = false) (hw2 : waitsB clo m h = false) (hm : seqFr X ops om = true) (hh : seqHard X ops oh = true)
    (a1 : ∀ d, om.dst = some d → d ∉ oh.looksAt ops) (a2 : ∀ d, om.dst = some d → oh.dst ≠ some d) (a3 : ∀ d, oh.dst = some d → d ∉ om.looksAt ops) {s b s2 : SQ} (hR : s.R m = none) (hT : s.T h = none)
    (h1 : stepQ X cl ops clo h oh s = some b) (h2 : stepQ X cl ops clo m om b = some s2) : ∃ b, stepQ X cl ops clo m om s = some b ∧ stepQ X cl ops clo h oh b = some s2 := by
  obtain ⟨hg, ⟨t, hd⟩, _⟩ := z58 (fr_rd hm)
  obtain ⟨⟨env, rows⟩, R, T⟩ := s
  simp only at hR hT
  rw [z6x hh] at h1
  obtain ⟨f1, st1, hst, rfl⟩ := h1
  rw [z37 (fr_rd hm) hd] at h2
  obtain ⟨f2, v', hv, rfl⟩ := h2
  simp only at f1 f2 hv hst
  have hd0 := z1w.1 f2 h hhs hw1 (touch X oh ⟨env, rows⟩) (by unfold updQ; rw [if_pos rfl])
  cases hr : rdRefs X ops om st1 with
  | none => rw [hr] at hd0; cases hd0
  | some refs =>
    cases ht : touch X oh ⟨env, rows⟩ with
    | none => rw [ht, hr] at hd0; cases hd0
    | some tl =>
      rw [ht, hr] at hd0
      rw [hr] at f2
      rw [ht] at f1
      have hdj := z7h.1 hd0
      obtain ⟨d, is, rows', rfl, g2, g3⟩ := zaw (hard_0 hh) hst ht
      have hs2 : SameAt X om ⟨env.map (killAll is), rows'⟩ ⟨envD oh.dst d (env.map (killAll is)), rows'⟩ := zcx d _ _ a3
      have hr1 : rdRefs X ops om ⟨env.map (killAll is), rows'⟩ = some refs := (z6c hs2 rfl).symm.trans hr
      -- what it names was named before
      have hback : rdRefs X ops om ⟨env, rows⟩ = some refs := by
        have hr1' := hr1
        unfold rdRefs at hr1' ⊢
        cases hlit : isLit X ops om with
        | true =>
          rw [hlit, if_pos rfl] at hr1'
          rw [if_pos rfl]
          cases hd1 : litD X ⟨env.map (killAll is), rows'⟩ om with
          | none => rw [hd1] at hr1'; cases hr1'
          | some x =>
            have hsm := z67 (zjs (rows := rows) hd1)
            rw [hsm] at hr1'
            exact hr1'
        | false =>
        rw [hlit, if_neg (by decide)] at hr1'
        rw [if_neg (by decide)]
        unfold rdRefs0 at hr1' ⊢
        cases hmv : (seqFr0 om && mvOp om.op) with
        | true => rw [if_pos hmv] at hr1'; rw [if_pos rfl]; exact hr1'
        | false =>
        rw [hmv, if_neg (by decide)] at hr1'
        rw [if_neg (by decide)]
        simp only [Option.ite_none_right_eq_some, Option.some.injEq] at hr1' ⊢
        obtain ⟨hc, he⟩ := hr1'
        rw [Bool.and_eq_true, Bool.and_eq_true] at hc
        obtain ⟨⟨c1, c2⟩, c3⟩ := hc
        have same : SameAt X om ⟨env, rows⟩ ⟨env.map (killAll is), rows'⟩ := fun x hx => by
          have hsol : (ev X ⟨env.map (killAll is), rows'⟩ x).solid = true := by
            have : ∀ (l : List D), D.solidL l = true → ∀ d ∈ l, d.solid = true := by
              intro l
              induction l with
              | nil => intro _ d hd; cases hd
              | cons a l ih =>
                intro h d hd
                simp only [D.solidL, Bool.and_eq_true] at h
                rcases List.mem_cons.1 hd with rfl | hd
                · exact h.1
                · exact ih h.2 d hd
            exact this _ c2 _ (List.mem_map.2 ⟨x, hx, rfl⟩)
          cases x with
          | tmp s =>
            simp only [ev, z50] at hsol ⊢
            exact z7z is _ hsol
          | _ => rfl
        rw [same.vs] at c2 he
        refine ⟨?_, he⟩
        rw [Bool.and_eq_true, Bool.and_eq_true]
        refine ⟨⟨c1, c2⟩, ?_⟩
        unfold loadOKO at c3 ⊢
        split at c3
        · rename_i ty x hop
          have hx : x ∈ om.op.operands.toList := by rw [hop]; simp [Op.operands]
          rw [same x hx] at c3
          revert c3
          cases e : ev X ⟨env, rows⟩ x with
          | pel r j =>
            intro c3
            have hrm : r ∈ refs := by
              rw [← he]
              exact z1e (List.mem_map.2 ⟨x, hx, rfl⟩) r (by rw [e]; simp [D.refs])
            have h2 := (g3 r (hdj r hrm)).2
            unfold loadOKD at c3 ⊢
            simp only [h2] at c3 ⊢
            cases hrr : rows r with
            | none => rw [hrr] at c3; cases c3
            | some row =>
              obtain ⟨w, c⟩ := row
              rw [hrr] at c3
              have hflat : c.isVar = false := by
                cases c with
                | var cells => simp only [Option.map_some, z34] at c3; cases c3
                | mp kk vk es => simp only [Option.map_some, z31] at c3; cases c3
                | nest k xss => simp only [Option.map_some, z32] at c3; cases c3
                | recs sh ps => simp only [Option.map_some, z33] at c3; cases c3
                | _ => rfl
              simp only [Option.map_some, z20 is w c hflat] at c3
              exact c3
          | _ => intro c3; exact c3
        · rfl
      obtain ⟨q2, q3⟩ := rd_kill (ops := ops) hback (is := is) (rows' := rows') fun r hr => g3 r (hdj r hr)
      rw [zbf d _ a3, q3] at hv
      obtain ⟨v, hv0, rfl⟩ := Option.map_eq_some_iff.1 hv
      have hsame : SameAt X oh ⟨env, rows⟩ ⟨env.set t v, rows⟩ := z4l (a1 t hd) v env rows
      have htouch := ze5 hsame
      refine ⟨⟨⟨env.set t v, rows⟩, updQ R m (some refs), T⟩, ?_, ?_⟩
      · rw [z37 (fr_rd hm) hd]
        refine ⟨?_, v, hv0, by rw [hback]⟩
        rw [z1w]
        intro k hk hw y hy
        simp only at hy
        rw [hback]
        by_cases e : k = h
        · subst e; rw [show T k = none from hT] at hy; cases hy
        · exact z1w.1 f2 k hk hw y (by unfold updQ; rw [if_neg e]; exact hy)
      · rw [z6x hh]
        refine ⟨?_, _, g2 _ hsame, ?_⟩
        · rw [z1w]
          intro k hk hw y hy
          simp only at hy ⊢
          rw [htouch, ht]
          unfold updQ at hy
          by_cases e : k = m
          · rw [if_pos e] at hy; cases hy; exact z7g hd0
          · rw [if_neg e] at hy; exact z1w.1 f1 k hk hw y hy
        · simp only
          rw [zd4, zam (a2 t hd), htouch, ht]
theorem rd_rd {m h : Nat} (hne : m ≠ h) {om oh : Oper} (hm : seqRd X ops om = true) (hh : seqRd X ops oh = true) (a1 : ∀ d, om.dst = some d → d ∉ oh.looksAt ops) (a2 : ∀ d, om.dst = some d → oh.dst ≠ some d) (a3 : ∀ d, oh.dst = some d → d ∉ om.looksAt ops)
    {s b s2 : SQ} (h1 : stepQ X cl ops clo m om s = some b) (h2 : stepQ X cl ops clo h oh b = some s2) : ∃ b, stepQ X cl ops clo h oh s = some b ∧ stepQ X cl ops clo m om b = some s2 := by
  obtain ⟨_, ⟨t, hd⟩, _⟩ := z58 hm
  obtain ⟨_, ⟨u, hu⟩, _⟩ := z58 hh
  obtain ⟨⟨env, rows⟩, R, T⟩ := s
  rw [z37 hm hd] at h1
  obtain ⟨f1, v, hv, rfl⟩ := h1
  rw [z37 hh hu] at h2
  obtain ⟨f2, x, hx, rfl⟩ := h2
  simp only at f1 f2 hv hx
  have e1 : rdRefs X ops oh ⟨env.set t v, rows⟩ = rdRefs X ops oh ⟨env, rows⟩ := z6c (z4l (a1 t hd) v env rows) rfl
  have e2 : rdRefs X ops om ⟨env.set u x, rows⟩ = rdRefs X ops om ⟨env, rows⟩ := z6c (z4l (a3 u hu) x env rows) rfl
  have hne2 : t ≠ u := fun e => a2 t hd (by rw [hu, e])
  rw [z7y v (a1 t hd)] at hx
  rw [e1] at f2
  refine ⟨⟨⟨env.set u x, rows⟩, updQ R h (rdRefs X ops oh ⟨env, rows⟩), T⟩, ?_, ?_⟩
  · rw [z37 hh hu]
    exact ⟨f2, x, hx, rfl⟩
  · rw [z37 hm hd]
    refine ⟨by simp only; rw [e2]; exact f1, v, by simp only; rw [z7y x (a3 u hu)]; exact hv, ?_⟩
    simp only
    rw [e1, e2, zpa hne, List.set_comm _ _ hne2]
def gdV (X : Ctx) (ops : Array Oper) (o : Oper) (st : St) : Option D :=
  match wanted ops st o with
  | .yes => quiet X st o
  | .no => some .und
  | .unknown => none
theorem zku {o : Oper} {st st' : St} (h : SameAt X o st st') (hr : st'.rows = st.rows) (hf : gdOp o.op = true) : quiet X st' o = quiet X st o := by
  unfold SameAt at h
  unfold quiet
  cases hop : o.op with
  | move x => rw [hop] at h; simp only; rw [h x (by simp [Op.operands])]
  | load t a => rw [hop] at h; simp only; rw [h a (by simp [Op.operands]), hr]
  | fieldAddr t x f => rw [hop] at h; simp only; rw [h x (by simp [Op.operands])]
  | indexAddr t x ix => rw [hop] at h; simp only; rw [h x (by simp [Op.operands]), h ix (by simp [Op.operands])]
  | call c =>
    rw [hop] at h hf
    obtain ⟨callee, args, at_⟩ := c
    cases callee with
    | value v => simp [gdOp] at hf
    | builtin b =>
      cases b <;> first | (simp [gdOp] at hf; done) | skip
      have h0 : ∀ x ∈ args.toList, ev X st' x = ev X st x := fun x hx => h x (by simp [Op.operands, Call.operands]; simpa using hx)
      simp only
      revert h0
      cases args.toList with
      | nil => intro _; rfl
      | cons x l =>
        cases l with
        | nil =>
          intro h0
          cases at_.toList with
          | nil => rfl
          | cons t l => cases l with
            | nil => simp only [h0 x (by simp), hr]
            | cons y l => rfl
        | cons y l => intro _; rfl
    | _ => simp [gdOp] at hf
  | _ => exfalso; rw [hop] at hf; simp [gdOp] at hf
theorem zpd {o : Oper} {t : Nat} (h : t ∉ o.looksAt ops) (d : D) (env : List D) (rows rows' : Nat → Option Row) : wanted ops ⟨env.set t d, rows'⟩ o = wanted ops ⟨env, rows⟩ o := by
  unfold wanted
  cases hg : o.guard with
  | none => rfl
  | some g =>
    obtain ⟨j, want⟩ := g
    simp only
    cases hd : (ops[j]?).bind (·.dst) with
    | none => rfl
    | some s =>
      have hs : s ∈ o.looksAt ops := by
        unfold Oper.looksAt
        rw [List.mem_append]
        refine .inr ?_
        rw [hg]
        simp only [hd]
        simp
      have hne : t ≠ s := fun e => h (e ▸ hs)
      simp only [List.getD_eq_getElem?_getD, List.getElem?_set_ne hne]
theorem gdV_set {o : Oper} {t : Nat} (h : t ∉ o.looksAt ops) (hf : gdOp o.op = true) (d : D) (env : List D) (rows : Nat → Option Row) : gdV X ops o ⟨env.set t d, rows⟩ = gdV X ops o ⟨env, rows⟩ := by
  unfold gdV
  rw [zpd h d env rows rows, zku (z4l h d env rows) rfl hf]
theorem gd_spec {o : Oper} (h : seqGd o = true) : (∃ t, o.dst = some t) ∧ gdOp o.op = true ∧ seqRd X ops o = false ∧ seqHard X ops o = false := by
  unfold seqGd at h
  simp only [Bool.and_eq_true, Option.isSome_iff_exists] at h
  obtain ⟨⟨⟨g, hg⟩, hd⟩, hf⟩ := h
  refine ⟨hd, hf, ?_, ?_⟩
  · unfold seqRd isLit seqRd0
    rw [hg]
    rfl
  · unfold seqHard z3w
    rw [hg]
    cases hop : o.op <;> simp
theorem step_gd {o : Oper} {st : St} (hf : gdOp o.op = true) : step X cl o st = (quiet X st o).map fun d => st.setD o.dst d := by
  unfold step
  cases hop : o.op with
  | move x => rfl
  | load t a => rfl
  | fieldAddr t x f => rfl
  | indexAddr t x ix => rfl
  | call c =>
    rw [hop] at hf
    obtain ⟨callee, args, at_⟩ := c
    cases callee with
    | value v => simp [gdOp] at hf
    | builtin b => cases b <;> first | (simp [gdOp] at hf; done) | rfl
    | _ => simp [gdOp] at hf
  | _ => exfalso; rw [hop] at hf; simp [gdOp] at hf
theorem z6w {i t : Nat} {o : Oper} (h : seqGd o = true) (hd : o.dst = some t) {s s' : SQ} : stepQ X cl ops clo i o s = some s' ↔ ∃ d, gdV X ops o s.st = some d ∧ s' = ⟨⟨s.st.env.set t d, s.st.rows⟩, s.R, s.T⟩ := by
  obtain ⟨_, hf, h1, h2⟩ := gd_spec (X := X) (ops := ops) h
  unfold stepQ
  rw [h1, if_neg (by decide), h2, if_neg (by decide)]
  unfold stepG gdV
  cases wanted ops s.st o with
  | yes =>
    simp only [step_gd hf, hd]
    cases quiet X s.st o with
    | none => simp
    | some d => simp [St.setD, eq_comm]
  | no => simp only [hd]; simp [St.setD, eq_comm]
  | unknown => simp
theorem gd_gd {m h : Nat} {om oh : Oper} (hm : seqGd om = true) (hh : seqGd oh = true) (a1 : ∀ d, om.dst = some d → d ∉ oh.looksAt ops) (a2 : ∀ d, om.dst = some d → oh.dst ≠ some d) (a3 : ∀ d, oh.dst = some d → d ∉ om.looksAt ops)
    {s b s2 : SQ} (h1 : stepQ X cl ops clo m om s = some b) (h2 : stepQ X cl ops clo h oh b = some s2) : ∃ b, stepQ X cl ops clo h oh s = some b ∧ stepQ X cl ops clo m om b = some s2 := by
  obtain ⟨⟨t, hd⟩, fm, _⟩ := gd_spec (X := X) (ops := ops) hm
  obtain ⟨⟨u, hu⟩, fh, _⟩ := gd_spec (X := X) (ops := ops) hh
  obtain ⟨⟨env, rows⟩, R, T⟩ := s
  rw [z6w hm hd] at h1
  obtain ⟨v, hv, rfl⟩ := h1
  rw [z6w hh hu] at h2
  obtain ⟨x, hx, rfl⟩ := h2
  simp only at hv hx
  have hne2 : t ≠ u := fun e => a2 t hd (by rw [hu, e])
  rw [gdV_set (a1 t hd) fh] at hx
  refine ⟨⟨⟨env.set u x, rows⟩, R, T⟩, (z6w hh hu).2 ⟨x, hx, rfl⟩, (z6w hm hd).2 ⟨v, ?_, ?_⟩⟩
  · simp only; rw [gdV_set (a3 u hu) fm]; exact hv
  · simp only; rw [List.set_comm _ _ hne2]
theorem zpc {k i : Nat} (h : k < i) (hw : (clo.getD i 0).testBit k = false) : waitsB clo k i = false ∧ waitsB clo i k = false := by
  unfold waitsB
  rw [if_pos h, if_neg (by omega)]
  exact ⟨hw, hw⟩
theorem zp0 {k i : Nat} (hki : k < i) (hi : i < ops.size) {ok oi : Oper} (hw : (clo.getD i 0).testBit k = false) (hp : seqPair X ops ok oi = true)
    {s b s2 : SQ} (hRk : s.R k = none) (hTk : s.T k = none) (hRi : s.R i = none) (hTi : s.T i = none) (h1 : stepQ X cl ops clo k ok s = some b) (h2 : stepQ X cl ops clo i oi b = some s2) : ∃ b, stepQ X cl ops clo i oi s = some b ∧ stepQ X cl ops clo k ok b = some s2 := by
  simp only [seqPair, Bool.and_eq_true, Bool.or_eq_true] at hp
  obtain ⟨hap, hp⟩ := hp
  obtain ⟨a1, a2, a3⟩ := Oper.apart_spec hap
  obtain ⟨w1, w2⟩ := zpc hki hw
  rcases hp with ((⟨g1, g2⟩ | ⟨g1, g2⟩) | ⟨g1, g2⟩) | ⟨g1, g2⟩
  rotate_left 3
  · exact gd_gd g1 g2 a1 a2 a3 h1 h2
  · exact rd_rd (by omega) g1 g2 a1 a2 a3 h1 h2
  · exact rd_hard (by omega) hi w2 w1 g1 g2 a1 a2 a3 hRk hTi h1 h2
  · exact zg5 hi (by omega) w1 w2 g2 g1 a3 (fun d hd e => a2 d e hd) a1 hRi hTk h1 h2
def runG (f : Nat → SQ → Option SQ) : List Nat → SQ → Option SQ
  | [], s => some s
  | i :: is, s => match f i s with
    | some s' => runG f is s'
    | none => none
def Fresh (L : List Nat) (s : SQ) : Prop := ∀ k ∈ L, s.R k = none ∧ s.T k = none
theorem zcn {f : Nat → SQ → Option SQ} (hkeep : ∀ k a b, f k a = some b → ∀ j, j ≠ k → b.R j = a.R j ∧ b.T j = a.T j) {i : Nat} {L2 : List Nat} : ∀ (L1 : List Nat) {s s' : SQ}, (L1 ++ i :: L2).Nodup → Fresh (L1 ++ i :: L2) s →
    (∀ k ∈ L1, ∀ a b c, a.R k = none → a.T k = none → a.R i = none → a.T i = none → f k a = some b → f i b = some c → ∃ x, f i a = some x ∧ f k x = some c) →
    runG f (L1 ++ i :: L2) s = some s' → ∃ x, f i s = some x ∧ runG f (L1 ++ L2) x = some s'
  | [], s, s', _, _, _, h => by
    simp only [List.nil_append, runG] at h ⊢
    split at h
    · rename_i x hx; exact ⟨x, hx, h⟩
    · cases h
  | k :: L1, s, s', hn, hf, hc, h => by
    simp only [List.cons_append, runG] at h
    split at h
    case h_2 => cases h
    rename_i s1 hs1
    simp only [List.cons_append, List.nodup_cons] at hn
    have hf1 : Fresh (L1 ++ i :: L2) s1 := fun j hj => by
      have hne : j ≠ k := fun e => hn.1 (e ▸ hj)
      obtain ⟨q1, q2⟩ := hkeep k s s1 hs1 j hne
      rw [q1, q2]
      exact hf j (List.mem_cons_of_mem _ hj)
    obtain ⟨s2, h1, h2⟩ := zcn hkeep L1 hn.2 hf1 (fun q hq => hc q (by simp [hq])) h
    have fk := hf k (by simp)
    have fi := hf i (by simp)
    obtain ⟨x, h3, h4⟩ := hc k (by simp) _ _ _ fk.1 fk.2 fi.1 fi.2 hs1 h1
    exact ⟨x, h3, by simp only [List.cons_append, runG, h4, h2]⟩
theorem zdx {k : Nat} {a b : SQ} (h : stepIQ X cl ops clo k a = some b) (j : Nat) (hj : j ≠ k) : b.R j = a.R j ∧ b.T j = a.T j := by
  unfold stepIQ at h
  split at h
  case h_2 => cases h
  unfold stepQ at h
  split at h
  · split at h
    case isFalse => cases h
    obtain ⟨d, _, rfl⟩ := Option.map_eq_some_iff.1 h
    exact ⟨if_neg hj, rfl⟩
  · split at h
    · split at h
      case isFalse => cases h
      obtain ⟨d, _, rfl⟩ := Option.map_eq_some_iff.1 h
      exact ⟨rfl, if_neg hj⟩
    · obtain ⟨d, _, rfl⟩ := Option.map_eq_some_iff.1 h
      exact ⟨rfl, rfl⟩
theorem zp1 (hX : XOK P X) (hcl : ∀ f args prows r, cl f args prows = some r → Sound P X f args prows r) {df : List Deferred} {s s' : SQ} (h : After X F w0 M0 df s.st a w) {i : Nat} {o : Oper} (ho : ops[i]? = some o) (hs : stepQ X cl ops clo i o s = some s') {Q : Exit → Act → World → Prop}
    {K : Act → World → Prop} (hK : ∀ a w, After X F w0 M0 df s'.st a w → K a w) : wpOp P ops Q i K a w := by
  unfold stepQ at hs
  split at hs
  · rename_i hrd
    split at hs
    case isFalse => cases hs
    obtain ⟨d, hd, rfl⟩ := Option.map_eq_some_iff.1 hs
    obtain ⟨rfl, M, mu, h⟩ := h
    obtain ⟨hg, ⟨t, hdst⟩, _⟩ := z58 hrd
    have hw : Region.wanted o (yielded ops a.tmps) = true := by unfold Region.wanted; rw [hg]
    unfold quietL at hd
    split at hd
    · obtain ⟨v, w', hk', h1, h2⟩ := zju hX (h.look (o.looksAt ops) (rows := s.st.rows) fun _ _ h => h) hd
      unfold wpOp
      rw [ho]
      simp only [hw, if_true]
      refine .inl ?_
      unfold Oper.wp
      rw [h1]
      exact hK _ _ ⟨zf _ _ _, M, mu, (h.world hk').setDst h2 _⟩
    obtain ⟨v, h1, h2⟩ := z8r hX (h.look (o.looksAt ops) (rows := s.st.rows) fun _ _ h => h) hd
    unfold wpOp
    rw [ho]
    simp only [hw, if_true]
    refine .inl ?_
    unfold Oper.wp
    rw [h1]
    exact hK _ _ ⟨zf _ _ _, M, mu, h.setDst h2 _⟩
  · split at hs
    · split at hs
      case isFalse => cases hs
      obtain ⟨d, hd, rfl⟩ := Option.map_eq_some_iff.1 hs
      exact z9d hX hcl h ho hd hK
    · obtain ⟨d, hd, rfl⟩ := Option.map_eq_some_iff.1 hs
      exact z9d hX hcl h ho hd hK
theorem zcz {i : Nat} {oi : Oper} : ∀ {l : List Oper} {k0 : Nat}, seqAt X ops clo i oi l k0 = true → ∀ (j : Nat) (ok : Oper), l[j]? = some ok → k0 + j < i → (clo.getD i 0).testBit (k0 + j) = false → seqPair X ops ok oi = true
  | [], k0, _, j, ok, h, _, _ => by simp at h
  | o :: l, k0, hs, 0, ok, h, hlt, hw => by
    simp at h; subst h
    simp only [seqAt, Bool.and_eq_true, Bool.or_eq_true, decide_eq_true_eq, Nat.add_zero] at hs hlt hw
    rcases hs.1 with (h1 | h1) | h1
    · omega
    · rw [hw] at h1; cases h1
    · exact h1
  | o :: l, k0, hs, j + 1, ok, h, hlt, hw => by
    simp only [seqAt, Bool.and_eq_true] at hs
    have e : k0 + (j + 1) = k0 + 1 + j := by omega
    rw [e] at hlt hw
    exact zcz hs.2 j ok (by simpa using h) hlt hw
theorem zcy : ∀ {l : List Oper} {i0 : Nat}, seqAll X ops clo l i0 = true → ∀ (j : Nat) (oi : Oper), l[j]? = some oi →
    (∀ e ∈ oi.after, Region.binds .any e = true → e.on < i0 + j) ∧ seqAt X ops clo (i0 + j) oi ops.toList 0 = true
  | [], i0, _, j, oi, h => by simp at h
  | o :: l, i0, hs, 0, oi, h => by
    simp at h; subst h
    simp only [seqAll, Bool.and_eq_true, Nat.add_zero] at hs ⊢
    obtain ⟨⟨h1, h3⟩, _⟩ := hs
    refine ⟨fun e he hb => ?_, h3⟩
    have := (Array.all_eq_true_iff_forall_mem.1 h1) e he
    simpa [hb] using this
  | o :: l, i0, hs, j + 1, oi, h => by
    simp only [seqAll, Bool.and_eq_true] at hs
    have e : i0 + (j + 1) = i0 + 1 + j := by omega
    rw [e]
    exact zcy hs.2 j oi (by simpa using h)
theorem ze3 : ∀ (l : List Oper) (k : Nat) (s : SQ), (∀ j, l[j]? = ops[k + j]? ∨ l.length ≤ j) → stepsQ X cl ops clo l k s = runG (stepIQ X cl ops clo) (List.range' k l.length) s
  | [], k, st, _ => by simp [stepsQ, runG]
  | o :: l, k, st, hl => by
    have h0 : ops[k]? = some o := by have := hl 0; have := (by simpa using this : some o = _); exact this.symm
    simp only [stepsQ, List.length_cons, List.range'_succ, runG, stepIQ, h0]
    cases stepQ X cl ops clo k o st with
    | none => rfl
    | some s =>
      dsimp only
      exact ze3 l (k + 1) s fun j => by
        have := hl (j + 1)
        simpa [Nat.add_assoc, Nat.add_comm 1 j] using this
theorem zdf : ∀ {L : List Nat}, L.Pairwise (· < ·) → L.Nodup
  | [], _ => by simp
  | i :: L, h => by
    rw [List.pairwise_cons] at h
    rw [List.nodup_cons]
    exact ⟨fun hm => by have := h.1 i hm; omega, zdf h.2⟩
theorem anyQ (hX : XOK P X) (hcl : ∀ f args prows r, cl f args prows = some r → Sound P X f args prows r) {df : List Deferred} (hok : seqOK X ops = true) {Q : Exit → Act → World → Prop} {s' : SQ} (hQ : ∀ a w, After X F w0 M0 df s'.st a w → Q .normal a w) :
    ∀ (fuel : Nat) (L : List Nat) (listed : Array Bool) (s : SQ) (a : Act) (w : World), L.length = fuel → L.Pairwise (· < ·) → (∀ j ∈ L, j < ops.size) → listed.size = ops.size → (∀ j, j < ops.size → (listed.getD j true = false ↔ j ∈ L)) →
      Down ops (fun j => listed.getD j false = true) → Fresh L s → After X F w0 M0 df s.st a w → runG (stepIQ X cl ops (closL ops.toList [])) L s = some s' → wpAny P .any ops Q fuel listed a w := by
  have hall := fun j oi h => zcy (ops := ops) (l := ops.toList) (i0 := 0) hok j oi h
  intro fuel
  induction fuel with
  | zero =>
    intro L listed st a w hlen hp hlt hsz hL hdown hfresh hinv hrun
    have : L = [] := List.eq_nil_of_length_eq_zero hlen
    subst this
    simp only [runG] at hrun
    cases hrun
    refine ⟨?_, hQ _ _ hinv⟩
    cases e : Region.ready .any ops listed with
    | nil => rfl
    | cons i is =>
      have hi : i ∈ Region.ready .any ops listed := by rw [e]; simp
      obtain ⟨h0, o, ho, _⟩ := mem_ready.1 hi
      have := (hL i (Array.getElem?_eq_some_iff.1 ho).1).1 h0
      simp at this
  | succ fuel ih =>
    intro L listed st a w hlen hp hlt hsz hL hdown hfresh hinv hrun
    refine ⟨fun hnil => ?_, fun i hi => ?_⟩
    · exfalso
      cases L with
      | nil => simp at hlen
      | cons i L' =>
        have hi := hlt i (by simp)
        have : i ∈ Region.ready .any ops listed := by
          refine mem_ready.2 ⟨(hL i hi).2 (by simp), ops[i], Array.getElem?_eq_getElem hi, fun e he hb => ?_⟩
          have h1 := (hall i ops[i] (by rw [Array.getElem?_toList]; exact Array.getElem?_eq_getElem hi)).1 e he hb
          rw [Nat.zero_add] at h1
          have hsz' : e.on < ops.size := by omega
          have hn : ¬ listed.getD e.on true = false := fun hf => by
            have := (hL e.on hsz').1 hf
            rcases List.mem_cons.1 this with h2 | h2
            · omega
            · have := (List.pairwise_cons.1 hp).1 _ h2; omega
          have hin : e.on < listed.size := by omega
          simp [Array.getD, hin] at hn ⊢
          exact hn
        rw [hnil] at this
        cases this
    · obtain ⟨h0, o, ho, hpre⟩ := mem_ready.1 hi
      have hisz := (Array.getElem?_eq_some_iff.1 ho).1
      have hiL := (hL i hisz).1 h0
      obtain ⟨L1, L2, rfl⟩ := zdr hiL
      obtain ⟨hlow, hp', hnot⟩ := zde hp
      have hoL : ops.toList[i]? = some o := by rw [Array.getElem?_toList]; exact ho
      obtain ⟨_, hat⟩ := hall i o hoL
      rw [Nat.zero_add] at hat
      have unl : ∀ k, k ∈ L1 ++ i :: L2 → ¬ listed.getD k false = true := fun k hk hf => by
        have h1 := (hL k (hlt k hk)).2 hk
        have hin : k < listed.size := by have := hlt k hk; omega
        simp [Array.getD, hin] at h1 hf
        rw [h1] at hf; cases hf
      have notw : ∀ k ∈ L1, ((closL ops.toList []).getD i 0).testBit k = false := fun k hk => by
        cases e : ((closL ops.toList []).getD i 0).testBit k with
        | false => rfl
        | true =>
          exfalso
          refine unl k (by simp [hk]) ?_
          refine z7e (S := fun j => listed.getD j false = true) hdown ops.toList [] (fun j => by simp) (fun j k h => by simp at h) i k e ?_
          intro o' ho' e' he' hb'
          rw [ho] at ho'
          cases ho'
          exact hpre e' he' hb'
      have comm : ∀ k ∈ L1, ∀ a b c, a.R k = none → a.T k = none → a.R i = none → a.T i = none → stepIQ X cl ops (closL ops.toList []) k a = some b → stepIQ X cl ops (closL ops.toList []) i b = some c → ∃ s, stepIQ X cl ops (closL ops.toList []) i a = some s ∧ stepIQ X cl ops (closL ops.toList []) k s = some c := by
        intro k hk a b c r1 r2 r3 r4 h1 h2
        have hkL : k ∈ L1 ++ i :: L2 := by simp [hk]
        have hks := hlt k hkL
        have hok' : ops[k]? = some ops[k] := Array.getElem?_eq_getElem hks
        generalize ops[k] = ok at hok'
        have hokL : ops.toList[k]? = some ok := by rw [Array.getElem?_toList]; exact hok'
        have hki := hlow k hk
        have hpair := zcz hat k ok hokL (by omega) (by rw [Nat.zero_add]; exact notw k hk)
        simp only [stepIQ, hok', ho] at h1 h2 ⊢
        exact zp0 hki hisz (notw k hk) hpair r1 r2 r3 r4 h1 h2
      obtain ⟨s, hs1, hs2⟩ := zcn (fun k a b h j hj => zdx h j hj) L1 (zdf hp) hfresh comm hrun
      have hfresh' : Fresh (L1 ++ L2) s := fun j hj => by
        have hne : j ≠ i := fun e => hnot (e ▸ hj)
        obtain ⟨q1, q2⟩ := zdx hs1 j hne
        rw [q1, q2]
        refine hfresh j ?_
        rcases List.mem_append.1 hj with h | h <;> simp [h]
      simp only [stepIQ, ho] at hs1
      refine zp1 hX hcl (df := df) hinv ho hs1 fun a' w' hinv' => ?_
      refine ih (L1 ++ L2) _ s a' w' (by simp at hlen ⊢; omega) hp' (fun j hj => hlt j (by rcases List.mem_append.1 hj with h | h <;> simp [h])) (by simpa using hsz) ?_ ?_ hfresh' hinv' hs2
      · intro j hj
        by_cases e : i = j
        · subst e
          constructor
          · intro hf
            have : i < listed.size := by omega
            simp [Array.getD, this] at hf
          · intro hm; exact (hnot hm).elim
        · rw [getD_set_ne true e, hL j hj]
          simp [Ne.symm e]
      · intro j oj hj hoj e he hb
        by_cases e' : i = j
        · subst e'
          rw [ho] at hoj
          cases hoj
          exact getD_set_true (hpre e he hb)
        · rw [getD_set_ne false e'] at hj
          exact getD_set_true (hdown j oj hj hoj e he hb)
theorem zm5 (hX : XOK P X) (hcl : ∀ f args prows r, cl f args prows = some r → Sound P X f args prows r) {df : List Deferred} {id : Nat} {Q : Exit → Act → World → Prop} {st' : St} (h : After X F w0 M0 df st a w) (hs : seqD X cl ops st = some st') (hQ : ∀ a w, After X F w0 M0 df st' a w → Q .normal a w) :
    (Code.region id ops true).wp P Q a w := by
  obtain ⟨hd, M, mu, h⟩ := h
  unfold seqD at hs
  split at hs
  case isFalse => cases hs
  rename_i hok
  obtain ⟨s, hs1, rfl⟩ := Option.map_eq_some_iff.1 hs
  have h1 := h.world (w' := { w with drawn := w.drawn + 1 }) ⟨rfl, rfl, rfl, Nat.le_refl _, fun _ _ _ => rfl⟩
  rw [ze3 ops.toList 0 _ (fun j => by simp)] at hs1
  refine wp_region_any hX.mixed ?_
  refine anyQ hX hcl hok (s' := s) (fun a w hi => hQ a w (z39 _ hi)) ops.size (List.range' 0 ops.toList.length) _ _ a _ (by simp) ?_ ?_ (by simp) ?_ ?_ (fun k _ => ⟨rfl, rfl⟩) ⟨hd, M, mu, h1⟩ hs1
  · exact List.pairwise_lt_range' 
  · intro j hj
    simp [List.mem_range'] at hj
    omega
  · intro j hj
    simp [hj, List.mem_range']
  · intro j o hj ho e he hb
    have hlt := (Array.getElem?_eq_some_iff.1 ho).1
    simp [hlt] at hj
theorem zfj (hX : XOK P X) (hcl : ∀ f args prows r, cl f args prows = some r → Sound P X f args prows r) {df : List Deferred} {id : Nat} {Q : Exit → Act → World → Prop} {st' : St} (h : After X F w0 M0 df st a w) (hs : drawD X cl ops st = some st') (hQ : ∀ a w, After X F w0 M0 df st' a w → Q .normal a w) :
    (Code.region id ops true).wp P Q a w := by
  unfold drawD at hs
  split at hs
  · exact zm5 hX hcl h hs hQ
  · exact zfh hX hcl h hs hQ
end
end Go.PR

end

section
namespace Go.PR
open Go
section
variable {P : Program} {X : Ctx} {F : Nat → Prop} {w0 w w' : World} {M0 : Entry} {M : Nat → Prop} {mu : Nat → Option Loc} {a : Act} {st : St}
theorem zfv (hX : XOK P X) {cl : FuncId → List D → List Row → Option Ret} (hcl : ∀ f args prows r, cl f args prows = some r → Sound P X f args prows r) {df : List Deferred} {id : Nat} {ops : Array Oper} {draw : Bool} {Q : Exit → Act → World → Prop} {st' : St} (h : After X F w0 M0 df st a w) (hs : z3e X cl ops draw st = some st') (hQ : ∀ a w, After X F w0 M0 df st' a w → Q .normal a w) :
    (Code.region id ops draw).wp P Q a w := by
  unfold z3e at hs
  cases draw with
  | false => exact zl6 hX hcl h hs hQ
  | true => exact zfj hX hcl h hs hQ
theorem zby {df : List Deferred} {body : Code} {ev : St → Option Out} {hint : Option Hint} (hb : ∀ {st a w out}, After X F w0 M0 df st a w → ev st = some out → body.wp P (OutOK X F w0 M0 df out) a w) :
    ∀ (n : Nat) {st a w out}, After X F w0 M0 df st a w → zw hint ev n st = some out → Code.rounds P body (OutOK X F w0 M0 df out) n a w
  | 0, st, a, w, out, h, he => by simp [zw] at he
  | n + 1, st, a, w, out, h, he => by
    rw [rounds_succ]
    obtain ⟨hd, M, mu, hs⟩ := h
    have h1 : After X F w0 M0 df (st.keep hint) a w := ⟨hd, M, mu, hs.keep hint⟩
    simp only [zw] at he
    cases e : ev (st.keep hint) with
    | none => rw [e] at he; cases he
    | some o =>
      rw [e] at he
      refine wp_mono (hb h1 e) ?_
      intro ex a w ho
      cases o with
      | normal s =>
        cases ex <;> simp only [OutOK] at ho
        exact zby hb n ho he
      | exit i s => cases he; have ho' := ho.keep hint; cases ex <;> first | exact ho' | (simp only [OutOK] at ho)
      | ret s => cases he; have ho' := ho.keep hint; cases ex <;> first | exact ho' | (simp only [OutOK] at ho)
theorem zad (hX : XOK P X) {cl : FuncId → List D → List Row → Option Ret} (hcl : ∀ f args prows r, cl f args prows = some r → Sound P X f args prows r) {df : List Deferred} {f : FuncId} {n : Nat} :
    ∀ (c : Code) (bid : Nat) {st : St} {a : Act} {w : World} {out : Out}, After X F w0 M0 df st a w → z4 X cl f n bid c st = some out → c.wp P (OutOK X F w0 M0 df out) a w := by
  intro c
  induction c with
  | skip => intro bid st a w out h he; simp only [z4] at he; cases he; exact wp_skip h
  | label l => intro bid st a w out h he; simp only [z4] at he; cases he; exact wp_label h
  | region id ops draw =>
    intro bid st a w out h he
    simp only [z4] at he
    obtain ⟨s, hs, rfl⟩ := Option.map_eq_some_iff.1 he
    exact zfv hX hcl h hs fun a w h => h
  | seq x y ihx ihy =>
    intro bid st a w out h he
    simp only [z4] at he
    refine wp_seq ?_
    cases e : z4 X cl f n bid x st with
    | none => rw [e] at he; cases he
    | some o =>
      rw [e] at he
      refine wp_mono (ihx bid h e) ?_
      intro ex a w ho
      cases o with
      | normal s =>
        cases ex <;> simp only [OutOK] at ho
        exact ihy bid ho he
      | exit i s => cases he; cases ex <;> first | exact ho | (simp only [OutOK] at ho)
      | ret s => cases he; cases ex <;> first | exact ho | (simp only [OutOK] at ho)
  | cond c x y ihx ihy =>
    intro bid st a w out h he
    simp only [z4] at he
    split at he
    case h_2 => cases he
    rename_i b hb
    obtain ⟨hd, M, mu, hs⟩ := h
    have hr := ev_rep hs c
    rw [hb] at hr
    simp only [Rep] at hr
    refine wp_cond hr ?_
    cases b with
    | true => exact ihx bid ⟨hd, M, mu, hs⟩ he
    | false => exact ihy bid ⟨hd, M, mu, hs⟩ he
  | block id body ih =>
    intro bid st a w out h he
    simp only [z4] at he
    refine wp_block ?_
    cases e : z4 X cl f n id body st with
    | none => rw [e] at he; cases he
    | some o =>
      rw [e] at he
      refine wp_mono (ih id h e) ?_
      intro ex a w ho
      cases o with
      | normal s => cases he; cases ex <;> first | exact ho | (simp only [OutOK] at ho)
      | exit i s =>
        cases ex <;> simp only [OutOK] at ho
        obtain ⟨rfl, ho⟩ := ho
        simp only at he
        simp only [Exit.inBlock]
        split at he
        · rename_i hi; cases he; rw [if_pos hi]; exact ho
        · rename_i hi; cases he; rw [if_neg hi]; exact ⟨rfl, ho⟩
      | ret s => cases he; cases ex <;> first | exact ho | (simp only [OutOK] at ho)
  | loop body ih =>
    intro bid st a w out h he
    simp only [z4] at he
    exact wp_loop_rounds n (zby (fun h e => ih bid h e) n h he)
  | exit id => intro bid st a w out h he; simp only [z4] at he; cases he; exact wp_exit ⟨rfl, h⟩
  | ret => intro bid st a w out h he; simp only [z4] at he; cases he; exact wp_ret h
  | _ => intro bid st a w out h he; simp [z4] at he
def resOne (tmps : Array Value) : ResultVar → Sem Value
  | .tmp t => pure (tmps.getD t undef)
  | .cell b t => do loadVar t (← asAddr (tmps.getD b undef))
theorem zl8 (fn : Func) (tmps : Array Value) : results fn tmps = (do let vs ← fn.results.mapM (resOne tmps); pure (if h : vs.size = 1 then vs[0] else .tuple vs)) := by
  unfold results
  congr 1
theorem zcm (hX : XOK P X) (h : SR X.glob F w0 M0 w M mu a.tmps st) : ∀ (l : List ResultVar) {ds : List D}, mapO (resD X st) l = some ds →
    ∃ vs : List Value, (l.mapM (resOne a.tmps)).run P w = .ok vs w ∧ RepL w M mu ds vs
  | [], ds, he => by simp only [mapO] at he; cases he; exact ⟨[], by simp, by simp only [RepL]⟩
  | x :: l, ds, he => by
    simp only [mapO] at he
    split at he
    case h_2 => cases he
    rename_i d ds' h1 h2
    cases he
    obtain ⟨vs, h3, h4⟩ := zcm hX h l h2
    cases x with
    | tmp t =>
      simp only [resD] at h1
      cases h1
      exact ⟨a.tmps.getD t undef :: vs, by simp only [List.mapM_cons, resOne, Sem.run_bind, Sem.run_pure, Result.andThen_ok, h3], by simp only [RepL]; exact ⟨h.get t, h4⟩⟩
    | cell b t =>
      simp only [resD] at h1
      split at h1
      case h_2 => cases h1
      rename_i i ht
      obtain ⟨u, h5, h6⟩ := zbv hX h ht (h.get b) h1
      have h7 : (resOne a.tmps (.cell b t)).run P w = .ok u w := by
        show (do loadVar t (← asAddr (a.tmps.getD b undef)) : Sem Value).run P w = .ok u w
        generalize a.tmps.getD b undef = v at h5 ⊢
        cases v with
        | pointer p => cases p with
          | some p => simpa [Instr.loadAt, Instr.sureAddr, asAddr] using h5
          | none => simp [Instr.loadAt, Instr.sureAddr] at h5
        | _ => simp [Instr.loadAt, Instr.sureAddr] at h5
      exact ⟨u :: vs, by simp only [List.mapM_cons, Sem.run_bind, h7, h3, Result.andThen_ok, Sem.run_pure], by simp only [RepL]; exact ⟨h6, h4⟩⟩
theorem zl9 (hX : XOK P X) {fn : Func} (h : SR X.glob F w0 M0 w M mu a.tmps st) {ds : List D} (he : mapO (resD X st) fn.results.toList = some ds) : ∃ v, (results fn a.tmps).run P w = .ok v w ∧ Rep w M mu (oneOr ds) v := by
  obtain ⟨vs, h1, h2⟩ := zcm hX h _ he
  have h3 : (results fn a.tmps).run P w = .ok (if h : vs.toArray.size = 1 then vs.toArray[0] else .tuple vs.toArray) w := by
    rw [zl8, Array.mapM_eq_mapM_toList]
    simp only [Sem.run_bind, Sem.run_map, h1, Result.andThen_ok, Sem.run_pure]
  refine ⟨_, h3, ?_⟩
  unfold oneOr
  cases ds with
  | nil => cases vs with
    | nil => simp only [Rep]; exact ⟨[], by simp, by simp only [RepL]⟩
    | cons => simp only [RepL] at h2
  | cons d ds => cases vs with
    | nil => simp only [RepL] at h2
    | cons v vs =>
      simp only [RepL] at h2
      cases ds with
      | nil => cases vs with
        | nil => simpa using h2.1
        | cons => simp only [RepL] at h2; exact h2.2.elim
      | cons d2 ds => cases vs with
        | nil => simp only [RepL] at h2; exact h2.2.elim
        | cons v2 vs => simp only [Rep]; exact ⟨v :: v2 :: vs, by simp, by simp only [RepL] at h2 ⊢; exact h2⟩
theorem zfw {G : Nat → Option D} {tmps : Array Value} {np : Nat} {F : Nat → Prop} (h : SR G F w0 M0 w M mu tmps st) {d : D} {v : Value} (hv : Rep w M mu d v) {r : Ret} (he : export_ np st d = some r) :
    ∃ mu', SR G F w0 M0 w M mu' #[v] ⟨[r.res], zn r⟩ := by
  unfold export_ at he
  dsimp only at he
  generalize reach st.rows [d] = own at he
  generalize hmore : (reach st.rows (((List.range np).map (PB + ·)).map fun i => .ptr i 0)).filter (fun i => !(decide (PB ≤ i) && decide (i < XB)) && !own.contains i) = more at he
  split at he
  case h_2 => cases he
  rename_i rows hrows
  split at he
  case isFalse => cases he
  rename_i hnd
  have he := Option.some.inj he
  subst he
  generalize hE : own ++ more = E at *
  let mu2 : Nat → Option Loc := fun i => if XB ≤ i then (match E[i - XB]? with | some q => mu q | none => mu i) else mu i
  have m1 : ∀ i, i < XB → mu2 i = mu i := fun i hi => by simp only [mu2]; rw [if_neg (Nat.not_le.2 hi)]
  have m2 : ∀ (j q : Nat), E[j]? = some q → mu2 (XB + j) = mu q := fun j q hj => by
    simp only [mu2]; rw [if_pos (Nat.le_add_right _ _), Nat.add_sub_cancel_left, hj]
  clear_value mu2
  have hren : ∀ r i, outNo E r = some i → mu2 i = mu r := fun r i e => by
    unfold outNo at e
    split at e
    · rename_i j hj
      have e := Option.some.inj e
      rw [← e]
      exact m2 j r (z51 hj)
    · split at e
      · rename_i hp; have e := Option.some.inj e; rw [← e]; exact m1 _ hp.2
      · cases e
  have kind : ∀ i row, zn { res := d.ren (outNo E), passed := ((List.range np).map (PB + ·)).map fun i => if own.contains i then none else (st.rows i).map (·.ren (outNo E)), out := rows.map (·.ren (outNo E)) } i = some row →
      ∃ q row0, st.rows q = some row0 ∧ row = row0.ren (outNo E) ∧ mu2 i = mu q ∧ ((∃ j, i = XB + j ∧ E[j]? = some q) ∨ (i = q ∧ PB ≤ i ∧ i < XB ∧ q ∉ E)) := by
    intro i row hr
    unfold zn at hr
    dsimp only at hr
    split at hr
    · rename_i hi
      rw [List.getElem?_map] at hr
      obtain ⟨row0, hr0, rfl⟩ := Option.map_eq_some_iff.1 hr
      obtain ⟨q, hq, hq2⟩ := (z8d hrows).2 _ _ hr0
      refine ⟨q, row0, hq2, rfl, ?_, .inl ⟨i - XB, (z41 hi).symm, hq⟩⟩
      have := m2 _ _ hq
      rw [z41 hi] at this
      exact this
    · rename_i hi
      split at hr
      · rename_i hi2
        rw [List.getElem?_map] at hr
        cases e : ((List.range np).map (PB + ·))[i - PB]? with
        | none => rw [e] at hr; cases hr
        | some q =>
          rw [e] at hr
          simp only [Option.map_some, Option.getD_some] at hr
          have hq : q = i := by
            rw [List.getElem?_map] at e
            obtain ⟨j, hj, e⟩ := Option.map_eq_some_iff.1 e
            rw [List.getElem?_range] at hj
            · have hj := Option.some.inj hj; rw [← e, ← hj]; exact z41 hi2
            · rcases Nat.lt_or_ge (i - PB) np with h | h
              · exact h
              · rw [List.getElem?_eq_none (by simpa using h)] at hj; cases hj
          subst hq
          split at hr
          · cases hr
          · rename_i hown
            obtain ⟨row0, hr0, rfl⟩ := Option.map_eq_some_iff.1 hr
            refine ⟨q, row0, hr0, rfl, m1 _ (Nat.lt_of_not_le hi), .inr ⟨rfl, hi2, Nat.lt_of_not_le hi, ?_⟩⟩
            rw [← hE]
            intro hm
            rcases List.mem_append.1 hm with hm | hm
            · exact hown (List.contains_iff_mem.2 hm)
            · rw [← hmore] at hm
              have := (List.mem_filter.1 hm).2
              rw [decide_eq_true hi2, decide_eq_true (Nat.lt_of_not_le hi)] at this
              simp at this
      · cases hr
  refine ⟨mu2, { h with env := ?_, rows := ?_, apart := ?_, pin := ?_ }⟩
  · simp only [RepL]; exact ⟨Rep.ren hren _ hv, trivial⟩
  · intro i row hr
    obtain ⟨q, row0, h1, rfl, h2, _⟩ := kind i row hr
    exact (h.rows q row0 h1).ren hren h2
  · intro i j ri rj b hij hi hj mi mj bi bj
    obtain ⟨q, row0, h1, rfl, h2, h3⟩ := kind i ri hi
    obtain ⟨q', row0', h1', rfl, h2', h3'⟩ := kind j rj hj
    refine h.apart q q' row0 row0' b (fun e => ?_) h1 h1' mi mj (by rw [← h2]; exact bi) (by rw [← h2']; exact bj)
    subst e
    rcases h3 with ⟨k, rfl, hk⟩ | ⟨rfl, _, _, hk⟩ <;> rcases h3' with ⟨k', rfl, hk'⟩ | ⟨rfl, _, _, hk'⟩
    · have e1 := z3q hnd hk
      have e2 := z3q hnd hk'
      rw [e1] at e2
      exact hij (congrArg (XB + ·) (Option.some.inj e2))
    · exact hk' (List.mem_of_getElem? hk)
    · exact hk (List.mem_of_getElem? hk')
    · exact hij rfl
  · intro i hi
    exact (m1 i hi.2).trans (h.pin i hi)
theorem zl7 (n : Nat) : RepL w M mu (List.replicate n .und) (List.replicate n undef) := by
  induction n with
  | zero => simp only [List.replicate, RepL]
  | succ n ih => simp only [List.replicate, RepL]; exact ⟨by simp only [Rep], ih⟩
theorem z7k (hX : XOK P X) (hpr : ∀ f args prows r, X.prim f args prows = some r → Sound P X f args prows r) : ∀ (k : Nat) (f : FuncId) (args : List D) (prows : List Row) (r : Ret), evalFn X k f args prows = some r → Sound P X f args prows r
  | 0, f, args, prows, r, h => by simp [evalFn] at h
  | k + 1, f, args, prows, r, h => by
    simp only [evalFn] at h
    split at h
    case h_1 => rename_i r' hr'; cases h; exact hpr f args prows _ hr'
    split at h
    case h_2 => cases h
    rename_i fn hfn
    split at h
    case h_2 => cases h
    rename_i c hc
    have fin : ∀ st, (match mapO (resD X st) fn.results.toList with
          | some ds => export_ prows.length st (oneOr ds)
          | none => none) = some r → ∀ {w : World} {M : Nat → Prop} {mu : Nat → Option Loc}, ∀ a w', After X (Fset w mu prows.length) w ⟨M, mu⟩ [] st a w' → a.defers = [] ∧ ∃ v, (results fn a.tmps).run P w' = .ok v w' ∧ ∃ v' M' mu', Ending.returned v = .returned v' ∧ SR X.glob (Fset w mu prows.length) w ⟨M, mu⟩ w' M' mu' #[v'] ⟨[r.res], zn r⟩ := by
      intro st hst w M mu a w' ha
      obtain ⟨hd, M', mu', hs⟩ := ha
      split at hst
      case h_2 => cases hst
      rename_i ds hds
      obtain ⟨v, h1, h2⟩ := zl9 hX hs hds
      obtain ⟨mu2, h3⟩ := zfw hs h2 hst
      exact ⟨hd, v, h1, v, M', mu2, rfl, h3⟩
    intro w M mu vs hs
    have hlen : args.length = vs.length := by simpa using RepL.length hs.env
    obtain ⟨hf, _⟩ := hX.ft f fn hfn
    refine calls_of_wp hf hc ?_
    have hin : After X (Fset w mu prows.length) w ⟨M, mu⟩ [] (bindIn prows.length { env := args ++ List.replicate (fn.ntmps - args.length) .und, rows := rowsIn prows }) { tmps := vs.toArray ++ Array.replicate (fn.ntmps - vs.toArray.size) undef, defers := [] } w := by
      have h0 : SR X.glob (Fset w mu prows.length) w ⟨M, mu⟩ w M mu (vs.toArray ++ Array.replicate (fn.ntmps - vs.toArray.size) undef) { env := args ++ List.replicate (fn.ntmps - args.length) .und, rows := rowsIn prows } := by
        refine { hs with env := ?_ }
        simp only [Array.toList_append, Array.toList_replicate, List.size_toArray, hlen]
        exact RepL.append hs.env (zl7 _)
      obtain ⟨mu', h1⟩ := SR.bindRows ((List.range prows.length).map fun j => .ptr (PB + j) 0) h0
      exact ⟨rfl, M, mu', h1⟩
    split at h
    · rename_i st hst
      refine wp_mono (zad hX (z7k hX hpr k) c 0 hin hst) ?_
      intro ex a w' ho
      cases ex <;> simp only [OutOK] at ho
      exact fin st h a w' ho
    · rename_i st hst
      refine wp_mono (zad hX (z7k hX hpr k) c 0 hin hst) ?_
      intro ex a w' ho
      cases ex <;> simp only [OutOK] at ho
      exact fin st h a w' ho
    · cases h
end
end Go.PR

end

section
namespace Go.PR
open Go
def zeroD : Value → D
  | .int k n => .int k n
  | .bool b => .bool b
  | .string s => .str s
  | .slice none 0 0 => .nil .unk
  | _ => .any
def kindOf : TypeDesc → TK
  | .int k => .int k
  | .bool => .bool
  | .string => .str
  | .slice e => .slice e
  | .struct fs => .struct (fs.toList.map fun f => (f.offset, f.type))
  | .array n e => .array n e
  | .map k e => .map k e
  | _ => .other
def ttOf (P : Program) (t : TypeId) : Option TI :=
  match P.info? t, P.underlying t with
  | some ti, some d => match ti.zero with
    | some z => if zerosOK (z.cells.toList.map zeroD) z.cells.toList && z.cells.size == ti.size && zeroFit (kindOf d) z then some ⟨kindOf d, ti.size, ti.bytes, z.cells.toList.map zeroD⟩ else none
    | none => none
  | _, _ => none
def ftOf (P : Program) (f : FuncId) : Option Func :=
  match P.funcs[f]? with
  | some fn => if (fn.name == "runtime.NumGoroutine") || fn.body.isNone then none else some fn
  | none => none
def ctxOf (P : Program) (glob : Nat → Option D) (byref : FuncId → Bool) (keep : FuncId → Nat → Option Hint) (prim : FuncId → List D → List Row → Option Ret) (nilPos : String → Bool := fun _ => false) (nestPos : String → Bool := fun _ => false) : Ctx := ⟨ttOf P, glob, ftOf P, byref, keep, prim, nilPos, nestPos⟩
theorem zfd {P : Program} {glob : Nat → Option D} {byref : FuncId → Bool} {keep : FuncId → Nat → Option Hint} {prim : FuncId → List D → List Row → Option Ret} {nilPos nestPos : String → Bool} (hm : P.follows .mixedOrders = true) : XOK P (ctxOf P glob byref keep prim nilPos nestPos) where
  tt := fun t i h => by
    simp only [ctxOf, ttOf] at h
    split at h
    case h_2 => cases h
    rename_i ti d h1 h2
    split at h
    case h_2 => cases h
    rename_i z hz
    split at h
    case isFalse => cases h
    rename_i hc
    simp only [Bool.and_eq_true, beq_iff_eq] at hc
    cases h
    refine ⟨⟨ti, z, h1, rfl, rfl, hz, hc.1.1, hc.1.2⟩, ?_, fun ti' z' e1 e2 => by rw [h1] at e1; cases e1; rw [hz] at e2; cases e2; exact hc.2⟩
    unfold kindOf
    cases d <;> simp only [KindOK] <;> first | exact h2 | exact ⟨_, h2, rfl⟩
  ft := fun f fn h => by
    simp only [ctxOf, ftOf] at h
    split at h
    case h_2 => cases h
    rename_i fn' hf
    split at h
    · cases h
    · rename_i hc
      cases h
      simp only [Bool.or_eq_true, not_or, Bool.not_eq_true] at hc
      exact ⟨hf, hc.1, hc.2⟩
  mixed := hm
end Go.PR

end

section
namespace Go.PR
open Go
def Runs (X : Ctx) (f : FuncId) (args : List D) (prows : List Row) (r : Ret) : Prop := ∃ K, ∀ k, K ≤ k → evalFn X k f args prows = some r
def WpC (X : Ctx) (f : FuncId) (bid : Nat) (c : Code) (st : St) (Q : Out → Prop) : Prop := ∃ K out, Q out ∧ ∀ k n, K ≤ k → K ≤ n → z4 X (evalFn X k) f n bid c st = some out
def WpL (X : Ctx) (f : FuncId) (bid : Nat) (body : Code) (st : St) (Q : Out → Prop) : Prop := ∃ K out, Q out ∧ ∀ k n m, K ≤ k → K ≤ n → K ≤ m → zw (X.keep f bid) (z4 X (evalFn X k) f n bid body) m st = some out
def WpO (X : Ctx) (ops : Array Oper) (l : List Oper) (st : St) (Q : St → Prop) : Prop := ∃ K s, Q s ∧ ∀ k, K ≤ k → stepsG X (evalFn X k) ops l st = some s
def WpD (X : Ctx) (ops : Array Oper) (clo : List Nat) (l : List Oper) (j : Nat) (st : St) (Q : St → Prop) : Prop := ∃ K s, Q s ∧ ∀ k, K ≤ k → stepsD X (evalFn X k) ops clo l j st = some s
section
variable {X : Ctx} {f : FuncId} {bid : Nat} {c : Code} {st : St} {Q Q' : Out → Prop}
def thenC (K : St → Prop) (Q : Out → Prop) : Out → Prop
  | .normal s => K s
  | o => Q o
def inBlk (id : Nat) (Q : Out → Prop) : Out → Prop
  | .exit j s => if j = id then Q (.normal s) else Q (.exit j s)
  | o => Q o
theorem WpC.skip (h : Q (.normal st)) : WpC X f bid .skip st Q := ⟨0, _, h, fun _ _ _ _ => rfl⟩
theorem WpC.label {l : Nat} (h : Q (.normal st)) : WpC X f bid (.label l) st Q := ⟨0, _, h, fun _ _ _ _ => rfl⟩
theorem WpC.exit {id : Nat} (h : Q (.exit id st)) : WpC X f bid (.exit id) st Q := ⟨0, _, h, fun _ _ _ _ => rfl⟩
theorem WpC.ret (h : Q (.ret st)) : WpC X f bid .ret st Q := ⟨0, _, h, fun _ _ _ _ => rfl⟩
theorem WpC.seq {a b : Code} (h : WpC X f bid a st (thenC (fun s => WpC X f bid b s Q) Q)) : WpC X f bid (.seq a b) st Q := by
  obtain ⟨K, out, h1, h2⟩ := h
  cases out with
  | normal s =>
    obtain ⟨K', out', h3, h4⟩ := h1
    exact ⟨max K K', out', h3, fun k n hk hn => by simp only [z4]; rw [h2 k n (by omega) (by omega)]; exact h4 k n (by omega) (by omega)⟩
  | exit i s => exact ⟨K, _, h1, fun k n hk hn => by simp only [z4]; rw [h2 k n (by omega) (by omega)]⟩
  | ret s => exact ⟨K, _, h1, fun k n hk hn => by simp only [z4]; rw [h2 k n (by omega) (by omega)]⟩
theorem WpC.cond {x : Operand} {a b : Code} {t : Bool} (hx : ev X st x = .bool t) (h : WpC X f bid (if t then a else b) st Q) : WpC X f bid (.cond x a b) st Q := by
  obtain ⟨K, out, h1, h2⟩ := h
  refine ⟨K, out, h1, fun k n hk hn => ?_⟩
  simp only [z4, hx]
  have := h2 k n hk hn
  cases t <;> simpa using this
theorem WpC.block {id : Nat} {a : Code} (h : WpC X f id a st (inBlk id Q)) : WpC X f bid (.block id a) st Q := by
  obtain ⟨K, out, h1, h2⟩ := h
  cases out with
  | normal s => exact ⟨K, _, h1, fun k n hk hn => by simp only [z4]; rw [h2 k n (by omega) (by omega)]⟩
  | exit i s =>
    simp only [inBlk] at h1
    split at h1
    · rename_i e; exact ⟨K, _, h1, fun k n hk hn => by simp only [z4]; rw [h2 k n (by omega) (by omega)]; simp [e]⟩
    · rename_i e; exact ⟨K, _, h1, fun k n hk hn => by simp only [z4]; rw [h2 k n (by omega) (by omega)]; simp [e]⟩
  | ret s => exact ⟨K, _, h1, fun k n hk hn => by simp only [z4]; rw [h2 k n (by omega) (by omega)]⟩
theorem WpC.loop {a : Code} (h : WpL X f bid a st Q) : WpC X f bid (.loop a) st Q := by
  obtain ⟨K, out, h1, h2⟩ := h
  exact ⟨K, out, h1, fun k n hk hn => by simp only [z4]; exact h2 k n n hk hn hn⟩
theorem WpL.round {a : Code} (h : WpC X f bid a (st.keep (X.keep f bid)) (thenC (fun s => WpL X f bid a s Q) (fun o => Q (o.keep (X.keep f bid))))) : WpL X f bid a st Q := by
  obtain ⟨K, out, h1, h2⟩ := h
  cases out with
  | normal s =>
    obtain ⟨K', out', h3, h4⟩ := h1
    refine ⟨max K K' + 1, out', h3, fun k n m hk hn hm => ?_⟩
    obtain ⟨m, rfl⟩ : ∃ m', m = m' + 1 := ⟨m - 1, by omega⟩
    simp only [zw]
    rw [h2 k n (by omega) (by omega)]
    exact h4 k n m (by omega) (by omega) (by omega)
  | exit i s =>
    refine ⟨K + 1, _, h1, fun k n m hk hn hm => ?_⟩
    obtain ⟨m, rfl⟩ : ∃ m', m = m' + 1 := ⟨m - 1, by omega⟩
    simp only [zw]
    rw [h2 k n (by omega) (by omega)]
  | ret s =>
    refine ⟨K + 1, _, h1, fun k n m hk hn hm => ?_⟩
    obtain ⟨m, rfl⟩ : ∃ m', m = m' + 1 := ⟨m - 1, by omega⟩
    simp only [zw]
    rw [h2 k n (by omega) (by omega)]
theorem WpC.mono (h : WpC X f bid c st Q) (hq : ∀ o, Q o → Q' o) : WpC X f bid c st Q' := let ⟨K, o, h1, h2⟩ := h; ⟨K, o, hq o h1, h2⟩
theorem WpL.mono (h : WpL X f bid c st Q) (hq : ∀ o, Q o → Q' o) : WpL X f bid c st Q' := let ⟨K, o, h1, h2⟩ := h; ⟨K, o, hq o h1, h2⟩
variable {ops : Array Oper} {id : Nat} {R : St → Prop}
theorem WpC.region (h : WpO X ops ops.toList st (fun s => Q (.normal s))) : WpC X f bid (.region id ops false) st Q := by
  obtain ⟨K, s, h1, h2⟩ := h
  exact ⟨K, _, h1, fun k n hk hn => by simp only [z4, z3e]; rw [if_neg (by simp), h2 k hk]; rfl⟩
theorem WpC.draw (hu : useSeq X ops = false) (hok : orderOK ops = true) {clo : List Nat} (hc : closL ops.toList [] = clo) {st0 : St} (hst : st.dropP (allP ops.toList) = st0) (h : WpD X ops clo ops.toList 0 st0 (fun s => Q (.normal (bindEnd X ops.toList s)))) : WpC X f bid (.region id ops true) st Q := by
  obtain ⟨K, s, h1, h2⟩ := h
  subst hc hst
  exact ⟨K, _, h1, fun k n hk hn => by simp only [z4, z3e, drawD, drawO, hu, Bool.false_eq_true, if_false, if_true, hok, h2 k hk, Option.map_some]⟩
theorem WpO.nil (h : R st) : WpO X ops [] st R := ⟨0, st, h, fun _ _ => rfl⟩
theorem WpO.op {o : Oper} {l : List Oper} {s : St} (hs : ∀ cl, stepG X cl ops o st = some s) (h : WpO X ops l s R) : WpO X ops (o :: l) st R := by
  obtain ⟨K, s', h1, h2⟩ := h
  exact ⟨K, s', h1, fun k hk => by simp only [stepsG, hs]; exact h2 k hk⟩
theorem WpO.call {o : Oper} {l : List Oper} {g : FuncId} {args : List D} {prows : List Row} {r : Ret} (hg : Runs X g args prows r) {s : St} (hs : ∀ cl : FuncId → List D → List Row → Option Ret, cl g args prows = some r → stepG X cl ops o st = some s) (h : WpO X ops l s R) : WpO X ops (o :: l) st R := by
  obtain ⟨K, s', h1, h2⟩ := h
  obtain ⟨K', h3⟩ := hg
  exact ⟨max K K', s', h1, fun k hk => by simp only [stepsG, hs _ (h3 k (by omega))]; exact h2 k (by omega)⟩
theorem WpD.nil {clo : List Nat} {j : Nat} (h : R st) : WpD X ops clo [] j st R := ⟨0, st, h, fun _ _ => rfl⟩
theorem WpD.op {clo : List Nat} {j : Nat} {o : Oper} {l : List Oper} {s : St} (hs : ∀ cl, stepD X cl ops clo j o st = some s) (h : WpD X ops clo l (j + 1) s R) : WpD X ops clo (o :: l) j st R := by
  obtain ⟨K, s', h1, h2⟩ := h
  exact ⟨K, s', h1, fun k hk => by simp only [stepsD, hs]; exact h2 k hk⟩
theorem WpD.call {clo : List Nat} {j : Nat} {o : Oper} {l : List Oper} {g : FuncId} {args : List D} {prows : List Row} {r : Ret} (hg : Runs X g args prows r) {s : St} (hs : ∀ cl : FuncId → List D → List Row → Option Ret, cl g args prows = some r → stepD X cl ops clo j o st = some s) (h : WpD X ops clo l (j + 1) s R) : WpD X ops clo (o :: l) j st R := by
  obtain ⟨K, s', h1, h2⟩ := h
  obtain ⟨K', h3⟩ := hg
  exact ⟨max K K', s', h1, fun k hk => by simp only [stepsD, hs _ (h3 k (by omega))]; exact h2 k (by omega)⟩
def lget (i : Nat) : List (Nat × Row) → Option Row
  | [] => none
  | (j, r) :: l => if i = j then some r else lget i l
theorem zd (L : List (Nat × Row)) (i : Nat) : rowsOf L i = lget i L := by
  induction L with
  | nil => rfl
  | cons a L ih => obtain ⟨j, r⟩ := a; simp only [rowsOf, lget, ih]
def lren (f : Nat → Option Nat) : List (Nat × Row) → List (Nat × Row)
  | [] => []
  | (j, r) :: l => (j, r.ren f) :: lren f l
def ldel (p : Nat → Bool) : List (Nat × Row) → List (Nat × Row)
  | [] => []
  | (j, r) :: l => if p j then ldel p l else (j, r) :: ldel p l
theorem z66 (f : Nat → Option Nat) (L : List (Nat × Row)) (i : Nat) : lget i (lren f L) = (lget i L).map (·.ren f) := by
  induction L with
  | nil => rfl
  | cons a L ih => obtain ⟨j, r⟩ := a; simp only [lren, lget, ih]; split <;> rfl
theorem z28 (p : Nat → Bool) (L : List (Nat × Row)) (i : Nat) : lget i (ldel p L) = if p i then none else lget i L := by
  induction L with
  | nil => simp [ldel, lget]
  | cons a L ih =>
    obtain ⟨j, r⟩ := a
    simp only [ldel]
    split
    · rename_i hj
      rw [ih]
      simp only [lget]
      split
      · rfl
      · rename_i hi
        have : i ≠ j := fun e => hi (e ▸ hj)
        simp [this]
    · rename_i hj
      simp only [lget, ih]
      split
      · rename_i e; subst e; simp [hj]
      · rfl
def lset (id : Nat) (r : Row) (L : List (Nat × Row)) : List (Nat × Row) := (id, r) :: ldel (· == id) L
theorem zd2 (id : Nat) (r : Row) (e : List D) (L : List (Nat × Row)) : St.setRow id r ⟨e, rowsOf L⟩ = ⟨e, rowsOf (lset id r L)⟩ := by
  unfold St.setRow
  congr 1
  funext i
  simp only [zd, lset, lget, z28]
  split
  · rfl
  · rename_i h; simp [h]
theorem zg0 (id : Nat) (e : List D) (L : List (Nat × Row)) : St.forget id ⟨e, rowsOf L⟩ = ⟨e, rowsOf (ldel (· == id) L)⟩ := by
  unfold St.forget
  congr 1
  funext i
  simp only [zd, z28]
  by_cases h : i = id <;> simp [h]
theorem zaj (id : Nat) (e : List D) (L : List (Nat × Row)) : St.drop id ⟨e, rowsOf L⟩ = ⟨D.renL (killF id) e, rowsOf (lren (killF id) (ldel (· == id) L))⟩ := by
  unfold St.drop
  congr 1
  funext i
  simp only [zd, z66, z28]
  by_cases h : i = id <;> simp [h]
theorem zke (id : Nat) (r : Row) (e : List D) (L : List (Nat × Row)) : St.newRow id r ⟨e, rowsOf L⟩ = ⟨D.renL (killF id) e, rowsOf ((id, r) :: lren (killF id) (ldel (· == id) L))⟩ := by
  unfold St.newRow
  rw [zaj]
  congr 1
theorem zfl (p : Nat → Bool) (e : List D) (L : List (Nat × Row)) : St.dropP p ⟨e, rowsOf L⟩ = ⟨D.renL (killP p) e, rowsOf (lren (killP p) (ldel p L))⟩ := by
  unfold St.dropP
  congr 1
  funext i
  simp only [zd, z66, z28]
  split <;> simp
def lmove (a b : Nat) (L : List (Nat × Row)) : List (Nat × Row) :=
  match lget a L with
  | some r => (b, r.ren (mvF a b)) :: lren (mvF a b) (ldel (fun i => i == a || i == b) L)
  | none => lren (mvF a b) (ldel (fun i => i == a || i == b) L)
theorem zk3 (a b : Nat) (e : List D) (L : List (Nat × Row)) : St.move a b ⟨e, rowsOf L⟩ = ⟨D.renL (mvF a b) e, rowsOf (lmove a b L)⟩ := by
  unfold St.move lmove
  congr 1
  funext i
  simp only [zd]
  cases h : lget a L with
  | none =>
    simp only [z66, z28]
    by_cases hb : i = b
    · simp [hb]
    · by_cases ha : i = a <;> simp [hb, ha]
  | some r =>
    simp only [lget, z66, z28]
    by_cases hb : i = b
    · simp [hb]
    · by_cases ha : i = a <;> simp [hb, ha]
theorem zk0 (p : Nat → Bool) (L : List (Nat × Row)) : mask p (rowsOf L) = rowsOf (ldel p L) := by
  funext i
  simp only [mask, zd, z28]
theorem ze9 (d : Option Tmp) (A L : List (Nat × Row)) : addRows d (rowsOf A) (rowsOf L) = rowsOf (ldel (fun i => !nset d i) A ++ ldel (nset d) L) := by
  have app : ∀ (A B : List (Nat × Row)) i, lget i (A ++ B) = (lget i A).or (lget i B) := by
    intro A B i
    induction A with
    | nil => simp [lget]
    | cons a A ih => obtain ⟨j, r⟩ := a; simp only [List.cons_append, lget, ih]; split <;> simp
  funext i
  simp only [addRows, zd, app, z28]
  cases e : nset d i <;> simp
def outL (ids : List Nat) (dst n : Nat) : Nat → List Row → List (Nat × Row)
  | _, [] => []
  | j, r :: rs => (xid dst j, r.ren (outF ids dst n)) :: outL ids dst n (j + 1) rs
def passL (ids : List Nat) (dst n : Nat) : List Nat → List (Option Row) → List (Nat × Row)
  | i :: is, some r :: rs => (i, r.ren (outF ids dst n)) :: passL ids dst n is rs
  | _ :: is, none :: rs => passL ids dst n is rs
  | _, _ => []
theorem z8n {ids : List Nat} {dst n : Nat} : ∀ (outs : List Row) (j q : Nat), j + outs.length ≤ 40 → q < outs.length → lget (xid dst (j + q)) (outL ids dst n j outs) = (outs[q]?).map (·.ren (outF ids dst n))
  | [], j, q, _, h => by simp at h
  | r :: rs, j, 0, _, _ => by simp [outL, lget]
  | r :: rs, j, q + 1, hj, hq => by
    simp only [List.length_cons] at hj hq
    have : xid dst (j + (q + 1)) ≠ xid dst j := fun e => by have := xid_inj (by omega) (by omega) e; omega
    simp only [outL, lget, if_neg this]
    rw [show j + (q + 1) = j + 1 + q by omega, z8n rs (j + 1) q (by omega) (by omega)]
    simp
theorem z8o {ids : List Nat} {dst n i : Nat} : ∀ (outs : List Row) (j : Nat), (∀ q, q < outs.length → xid dst (j + q) ≠ i) → lget i (outL ids dst n j outs) = none
  | [], j, _ => rfl
  | r :: rs, j, h => by
    have h0 := h 0 (by simp)
    simp only [outL, lget]
    rw [if_neg (fun e => h0 (by simpa using e.symm))]
    exact z8o rs (j + 1) fun q hq => by have := h (q + 1) (by simpa using hq); rwa [show j + 1 + q = j + (q + 1) by omega]
theorem zg7 (a : Nat) (is : List Nat) (i : Nat) : idx (a :: is) i = if a = i then some 0 else (idx is i).map (· + 1) := by
  unfold idx
  rw [List.findIdx?_cons]
  by_cases h : a = i <;> simp [h]
theorem zcc {ids : List Nat} {dst n i : Nat} : ∀ (is : List Nat) (ps : List (Option Row)), is.Nodup → ps.length = is.length → lget i (passL ids dst n is ps) = match idx is i with | some j => ((ps[j]?).bind fun x => x).map (·.ren (outF ids dst n)) | none => none
  | [], [], _, _ => rfl
  | [], _ :: _, _, h => by simp at h
  | _ :: _, [], _, h => by simp at h
  | a :: is, p :: ps, hn, hl => by
    simp only [List.nodup_cons] at hn
    have ih := zcc (ids := ids) (dst := dst) (n := n) (i := i) is ps hn.2 (by simpa using hl)
    rw [zg7]
    cases p with
    | some r =>
      simp only [passL, lget]
      by_cases h : a = i
      · simp [h]
      · rw [if_neg (fun e => h e.symm), if_neg h, ih]
        cases idx is i <;> simp
    | none =>
      simp only [passL]
      rw [ih]
      by_cases h : a = i
      · subst h
        have : idx is a = none := by
          cases e : idx is a with
          | none => rfl
          | some j => exact (hn.1 (List.mem_of_getElem? (z51 e))).elim
        simp [this]
      · rw [if_neg h]
        cases idx is i <;> simp
theorem z8a : ∀ (A B : List (Nat × Row)) (i : Nat), lget i (A ++ B) = (lget i A).or (lget i B)
  | [], B, i => by simp [lget]
  | (j, r) :: A, B, i => by simp only [List.cons_append, lget, z8a A B i]; split <;> simp
theorem z9r (dst : Nat) (res : D) (outs : List Row) (L : List (Nat × Row)) (ho : outs.length ≤ 40) :
    zx [] dst ⟨res, [], outs⟩ (rowsOf L) = rowsOf (outL [] dst outs.length 0 outs ++ ldel (fun i => (outIds dst outs.length).contains i) L) := by
  funext i
  unfold zx
  simp only [zd, z8a, z28]
  cases e : (List.range outs.length).find? (fun j => xid dst j == i) with
  | some q =>
    obtain ⟨h1, h2⟩ := z4z ho e
    have := z8n (ids := []) (dst := dst) (n := outs.length) outs 0 q (by omega) h1
    rw [Nat.zero_add, h2] at this
    rw [this]
    simp only
    cases e2 : outs[q]? with
    | none => rw [List.getElem?_eq_none_iff] at e2; omega
    | some r => simp
  | none =>
    have hno := z7m e
    have := z8o (ids := []) (dst := dst) (n := outs.length) (i := i) outs 0 (fun q hq h => hno (by rw [Nat.zero_add] at h; exact List.mem_map.2 ⟨q, List.mem_range.2 hq, h⟩))
    rw [this]
    have hc : (outIds dst outs.length).contains i = false := by simpa using hno
    simp only [idx, List.findIdx?_nil, hc, Option.none_or, Bool.false_eq_true, if_false]
theorem zej (ids : List Nat) (dst : Nat) (res : D) (ps : List (Option Row)) (outs : List Row) (L : List (Nat × Row)) (hn : ids.Nodup) (hp : ps.length = ids.length) (ho : outs.length ≤ 40) (hd : ∀ i ∈ outIds dst outs.length, i ∉ ids) :
    zx ids dst ⟨res, ps, outs⟩ (rowsOf L) = rowsOf (outL ids dst outs.length 0 outs ++ (passL ids dst outs.length ids ps ++ ldel (fun i => (outIds dst outs.length).contains i || ids.contains i) L)) := by
  funext i
  unfold zx
  simp only [zd, z8a, z28]
  cases e : (List.range outs.length).find? (fun j => xid dst j == i) with
  | some q =>
    obtain ⟨h1, h2⟩ := z4z ho e
    have := z8n (ids := ids) (dst := dst) (n := outs.length) outs 0 q (by omega) h1
    rw [Nat.zero_add, h2] at this
    rw [this]
    simp only
    cases e2 : outs[q]? with
    | none => rw [List.getElem?_eq_none_iff] at e2; omega
    | some r => simp
  | none =>
    have hno := z7m e
    have := z8o (ids := ids) (dst := dst) (n := outs.length) (i := i) outs 0 (fun q hq h => hno (by rw [Nat.zero_add] at h; exact List.mem_map.2 ⟨q, List.mem_range.2 hq, h⟩))
    rw [this]
    have hc : (outIds dst outs.length).contains i = false := by simpa using hno
    simp only [hc, Bool.false_or, Option.none_or]
    rw [zcc ids ps hn hp]
    cases e3 : idx ids i with
    | some j =>
      have hi : ids.contains i = true := by simpa using List.mem_of_getElem? (z51 e3)
      simp only [hi, if_true]
      have h5 : (ps[j]?).bind id = (ps[j]?).bind fun x => x := rfl
      rw [h5]
      cases h4 : ((ps[j]?).bind fun x => x) <;> rfl
    | none =>
      have hi : ids.contains i = false := by
        cases h5 : ids.contains i with
        | false => rfl
        | true =>
          obtain ⟨j, hj⟩ := List.mem_iff_getElem?.1 (by simpa using h5 : i ∈ ids)
          have : idx ids i ≠ none := by
            unfold idx
            rw [Ne, List.findIdx?_eq_none_iff]
            intro h
            have := h i (List.mem_of_getElem? hj)
            simp at this
          exact (this e3).elim
      rw [hi]
      simp
theorem z8l : (fun _ => none : Nat → Option Row) = rowsOf [] := by funext i; rfl
theorem zkl (j : Nat) (r : Row) : (fun i => if i = j then some r else none : Nat → Option Row) = rowsOf [(j, r)] := by funext i; simp [rowsOf]
end
end Go.PR

end
