/- Regions that draw their order: one operation. -/
import Derived.Test.YtdheehhnpjkdbaaDoorFwN
set_option linter.unusedVariables false
set_option linter.unusedSimpArgs false
namespace Go.PR
open Go

section
variable {P : Program} {X : Ctx} {F : Nat → Prop} {w0 w w' : World} {M0 : Entry} {M : Nat → Prop} {mu mu' : Nat → Option Loc} {a : Act} {st st1 : St}

theorem behind_add (h : SR X.glob F w0 M0 w M mu a.tmps st) {d : Nat} (hd : d < 10000) (hun : ∀ id, nset (some d) id = true → mu id = none) (r : Ret) : rowsBehind [] d r st.rows = addRows (some d) (rowsBehind [] d r fun _ => none) st.rows := by
  funext i
  unfold addRows rowsBehind
  cases e : (List.range r.out.length).find? (fun j => xid d j == i) with
  | some j =>
    have h1 := List.find?_some e
    have : xid d j = i := by simpa using h1
    rw [← this, nset_xid hd]
    simp
  | none =>
    simp only [idx, List.findIdx?_nil]
    split
    · rename_i hn; rw [h.noRow (hun i hn)]
    · rfl

theorem intsD_rep {k : IntKind} : ∀ {ds : List D} {vs : List Value} {xs : List Int}, intsD k ds = some xs → RepL w M mu ds vs → vs = intsV k xs ∧ ∀ v ∈ vs, v.oneCell' = true
  | [], [], xs, h, _ => by simp only [intsD] at h; cases h; exact ⟨rfl, by simp⟩
  | [], _ :: _, xs, _, h => by simp only [RepL] at h
  | _ :: _, [], xs, _, h => by simp only [RepL] at h
  | d :: ds, v :: vs, xs, h, hr => by
    simp only [RepL] at hr
    cases d with
    | int k' n =>
      simp only [intsD] at h
      split at h
      case isFalse => cases h
      rename_i e; subst e
      obtain ⟨ys, hy, rfl⟩ := Option.map_eq_some_iff.1 h
      obtain ⟨h1, h2⟩ := intsD_rep hy hr.2
      have h3 := hr.1
      simp only [Rep] at h3
      subst h3
      refine ⟨by rw [h1]; rfl, fun u hu => ?_⟩
      rcases List.mem_cons.1 hu with rfl | hu
      · rfl
      · exact h2 u hu
    | _ => simp [intsD] at h

theorem ints2D_rep {k : IntKind} : ∀ {ds : List D} {vs : List Value} {xss : List (List Int)}, ints2D k ds = some xss → RepL w M mu ds vs → All2 (fun xs u => SlV w M (intsV k xs) u) xss vs ∧ ∀ v ∈ vs, v.oneCell' = true
  | [], [], xss, h, _ => by simp only [ints2D] at h; cases h; exact ⟨trivial, by simp⟩
  | [], _ :: _, xss, _, h => by simp only [RepL] at h
  | _ :: _, [], xss, _, h => by simp only [RepL] at h
  | d :: ds, v :: vs, xss, h, hr => by
    simp only [RepL] at hr
    cases d with
    | immI k' xs =>
      simp only [ints2D] at h
      split at h
      case isFalse => cases h
      rename_i e; subst e
      obtain ⟨ys, hy, rfl⟩ := Option.map_eq_some_iff.1 h
      obtain ⟨h1, h2⟩ := ints2D_rep hy hr.2
      have h3 := hr.1
      simp only [Rep] at h3
      refine ⟨⟨h3, h1⟩, fun u hu => ?_⟩
      rcases List.mem_cons.1 hu with rfl | hu
      · obtain ⟨A, c, e, _⟩ := h3; rw [e]; rfl
      · exact h2 u hu
    | nil k' =>
      simp only [ints2D] at h
      obtain ⟨ys, hy, rfl⟩ := Option.map_eq_some_iff.1 h
      obtain ⟨h1, h2⟩ := ints2D_rep hy hr.2
      have h3 := hr.1
      simp only [Rep] at h3
      obtain ⟨A, rfl⟩ := h3
      refine ⟨⟨⟨A, 0, by simp [intsV], by simp [intsV], .inl (by simp [intsV])⟩, h1⟩, fun u hu => ?_⟩
      rcases List.mem_cons.1 hu with rfl | hu
      · rfl
      · exact h2 u hu
    | _ => simp [ints2D] at h

theorem boolsD_rep : ∀ {ds : List D} {vs : List Value} {xs : List Bool}, boolsD ds = some xs → RepL w M mu ds vs → vs = boolsV xs ∧ ∀ v ∈ vs, v.oneCell' = true
  | [], [], xs, h, _ => by simp only [boolsD] at h; cases h; exact ⟨rfl, by simp⟩
  | [], _ :: _, xs, _, h => by simp only [RepL] at h
  | _ :: _, [], xs, _, h => by simp only [RepL] at h
  | d :: ds, v :: vs, xs, h, hr => by
    simp only [RepL] at hr
    cases d with
    | bool n =>
      simp only [boolsD] at h
      obtain ⟨ys, hy, rfl⟩ := Option.map_eq_some_iff.1 h
      obtain ⟨h1, h2⟩ := boolsD_rep hy hr.2
      have h3 := hr.1
      simp only [Rep] at h3
      subst h3
      refine ⟨by rw [h1]; rfl, fun u hu => ?_⟩
      rcases List.mem_cons.1 hu with rfl | hu
      · rfl
      · exact h2 u hu
    | _ => simp [boolsD] at h

theorem buildI_rep {nk : NK} {ds : List D} {vs : List Value} {c : Cont} (h : buildI nk ds = some c) (hr : RepL w M mu ds vs) : ContRep w M mu c vs ∧ c.isVar = false ∧ ∀ v ∈ vs, v.oneCell' = true := by
  unfold buildI at h
  split at h
  · obtain ⟨xs, h1, rfl⟩ := Option.map_eq_some_iff.1 h
    obtain ⟨h2, h3⟩ := boolsD_rep h1 hr
    exact ⟨by simp only [ContRep]; exact h2, rfl, h3⟩
  · obtain ⟨xs, h1, rfl⟩ := Option.map_eq_some_iff.1 h
    obtain ⟨h2, h3⟩ := intsD_rep h1 hr
    exact ⟨by simp only [ContRep]; exact h2, rfl, h3⟩
  · obtain ⟨xs, h1, rfl⟩ := Option.map_eq_some_iff.1 h
    obtain ⟨h2, h3⟩ := ints2D_rep h1 hr
    exact ⟨by simp only [ContRep]; exact h2, rfl, h3⟩
  · cases h

theorem newD_sound (hX : XOK P X) {cl : FuncId → List D → List Row → Option Ret} (hcl : ∀ f args prows r, cl f args prows = some r → Sound P X f args prows r) (h : SR X.glob F w0 M0 w M mu a.tmps st) (hw : SR X.glob F w0 M0 w M mu a.tmps st1) {o : Oper} (hlt : ∀ d, o.dst = some d → d < 10000) (hun : ∀ id, nset o.dst id = true → mu id = none) {p : D × (Nat → Option Row)} (hs : newD X cl st1 o = some p)
    {K : Act → World → Prop} {Q : Exit → Act → World → Prop} (hK : ∀ v w' M' mu', SR X.glob F w0 M0 w' M' mu' a.tmps { st with rows := addRows o.dst p.2 st.rows } → Rep w' M' mu' p.1 v → (∀ r, nset o.dst r = false → mu' r = mu r) → K (a.put o.dst v) w') : o.wp P a w K Q := by
  unfold newD at hs
  split at hs
  · -- a call
    rename_i g args argTypes d hop hdst
    rw [hdst] at hlt hun hK
    have hd := hlt d rfl
    split at hs
    case h_2 => cases hs
    rename_i f cap hg
    split at hs
    case isTrue => cases hs
    rename_i hft
    simp only [Bool.or_eq_true, not_or] at hft
    dsimp only at hs
    generalize hall : args.toList.map (ev X st1) ++ cap = all at hs
    generalize reach st1.rows all = Z at hs
    split at hs
    case h_2 => cases hs
    rename_i args' hargs
    split at hs
    case h_2 => cases hs
    rename_i r hcall
    split at hs
    case isFalse => cases hs
    rename_i hcond
    simp only [Bool.and_eq_true, decide_eq_true_eq, List.isEmpty_iff, Bool.or_eq_true, List.all_eq_true] at hcond
    obtain ⟨⟨hpn, hol⟩, hz⟩ := hcond
    cases hs
    have hgr := ev_rep hw g
    rw [hg] at hgr
    simp only [Rep] at hgr
    obtain ⟨cv, hgv, hcap⟩ := hgr
    obtain ⟨fn, hfn⟩ : ∃ fn, X.ft f = some fn := by cases e : X.ft f with | none => simp [e] at hft | some fn => exact ⟨fn, rfl⟩
    obtain ⟨k1, k2, k3⟩ := hX.ft f fn hfn
    have hr : RepL w M mu all (args.toList.map a.eval ++ cv) := by rw [← hall]; exact RepL.append (ev_repL hw args.toList) hcap
    have hrun : (execOp a.eval o).run P w = .ok (.enter f (args.toList.map a.eval ++ cv).toArray) w := by
      have k2' : ¬ fn.name = "runtime.NumGoroutine" := by simpa using k2
      have k3' : ¬ fn.body = none := by intro e; rw [e] at k3; cases k3
      simp [execOp, hop, resolve, hgv, Deferred.ofValue, invoke, callFunc, k1, k2', k3']
    unfold Oper.wp
    rw [hrun, Oper.upon_enter]
    generalize args.toList.map a.eval ++ cv = vs at hr
    let Mc := Less M mu st1.rows Z
    have hargs' : RepL w Mc mu0 args' vs := mapO_rep (fun d d' v e hv => reify_rep hw Z mu0 _ d d' v e hv) hargs hr
    have hentry : SR X.glob (Fset w mu0 0) w ⟨Mc, mu0⟩ w Mc mu0 vs.toArray ⟨args', rowsIn []⟩ := by
      have none_ : ∀ i, rowsIn [] i = none := fun i => by unfold rowsIn; split <;> simp
      exact { env := by simpa using hargs', rows := (fun i ri hi => absurd ((none_ i).symm.trans hi) (by simp)), apart := (fun i j ri rj b _ hi => absurd ((none_ i).symm.trans hi) (by simp)), keeps := Keeps.refl _ _, m1 := fun _ _ h => h, m2 := fun _ h _ => h, mlt := fun b hb => h.mlt b hb.1, fr := fun _ h => .inl h, glob := fun g d hg => Rep.keeps (Keeps.refl _ _) (fun _ _ hb => hb.1) (fun _ _ h => h) d (h.glob g d hg), pin := fun _ _ => rfl }
    have hsound := hcl f _ _ r hcall w Mc mu0 vs hentry
    refine hsound.mono ?_
    rintro e w' ⟨v, M', mu', rfl, hc⟩
    have nd0 : nodupB [] = true := rfl
    have hup : (∀ b, M b → Mc b) ∨ (([] : List Nat) = [] ∧ r.res.noImm = true ∧ ∀ x ∈ r.out, x.wr = true ∧ x.c.noImm = true) := by
      rcases hz with rfl | ⟨h1, h2⟩
      · left; intro b hb; show Less M mu st1.rows [] b; rw [less_nil rfl]; exact hb
      · exact .inr ⟨rfl, h1, fun x hx => by have := h2 x hx; simpa using this⟩
    obtain ⟨M'', mu'', k1, k2, k3⟩ := h.back [] d r nd0 (fun j i hi => by simp at hi) (by simp) (fun b hb => hb.1) (fun j i hi => by simp at hi) hc (by simp [hpn]) hol (fun i _ => by simp) hup [] (fun j i hi => by simp at hi)
    have hout : ∀ i ∈ outIds d r.out.length, nset (some d) i = true := fun i hi => by
      obtain ⟨q, _, rfl⟩ := List.mem_map.1 hi
      exact nset_xid hd
    rw [List.nil_append, h.dropAll_unborn _ (fun i hi => hun i (hout i hi)), behind_add h hd hun r] at k1
    rw [hdst]
    refine hK v w' M'' mu'' k1 k2 (fun q hq => k3 q fun hm => ?_)
    rw [hout q hm] at hq
    cases hq
  · -- a literal
    rename_i t n parts d hop hdst
    rw [hdst] at hlt hun hK
    have hd := hlt d rfl
    split at hs
    case h_2 => cases hs
    rename_i e ei hel
    split at hs
    case isFalse => cases hs
    rename_i hsz
    split at hs
    case h_2 => cases hs
    rename_i ds hds
    split at hs
    case isFalse => cases hs
    rename_i hn
    obtain ⟨c, hb, rfl⟩ := Option.map_eq_some_iff.1 hs
    obtain ⟨hu, he⟩ := elemOf_spec hX hel
    obtain ⟨hdsv, hidx⟩ := parts01_run parts.toList 0 ds hds
    have hreps : RepL w M mu ds (parts.toList.map fun p => a.eval p.2) := by
      rw [hdsv]
      have : ∀ (ps : List (Nat × Operand)), RepL w M mu (ps.map fun p => ev X st1 p.2) (ps.map fun p => a.eval p.2) := by
        intro ps
        induction ps with
        | nil => simp only [List.map, RepL]
        | cons p ps ih => simp only [List.map, RepL]; exact ⟨ev_rep hw p.2, ih⟩
      exact this _
    obtain ⟨hvs, hnv, g4⟩ := buildI_rep hb hreps
    have hvl : (parts.toList.map fun p => a.eval p.2).length = n := by rw [← hreps.length]; exact hn
    have hrun : (execOp a.eval o).run P w = .ok (.value (.slice (some ⟨w.heap.size, 0, none⟩) n n)) (w.alloc (.cells (parts.toList.map fun p => a.eval p.2).toArray e)) := by
      have := buildSlice_run (P := P) (w := w) hX hu he hsz.1 g4 (by rw [hvl]; exact hsz.2) (parts.map fun (i, x) => (i, a.eval x)) (by
        have hz := zip_parts a.eval parts.toList 0 hidx
        rw [← hz]
        simp)
      rw [hvl] at this
      simp [execOp, hop, this]
    unfold Oper.wp
    rw [hrun]
    have hid := hun (nid d) (nset_nid hd)
    obtain ⟨M', mu', e1, h2, h3⟩ := h.alloc (w' := w.alloc (.cells (parts.toList.map fun p => a.eval p.2).toArray e)) (nid d) (nid_pin d) c (parts.toList.map fun p => a.eval p.2).toArray e (parts.toList.map fun p => a.eval p.2) (Keeps.alloc _ w _) (alloc_block w _) (fun mu' _ => hvs.anyMu hnv) (by simp) (fun j hj => by simp)
    have hst : st.newRow (nid d) ⟨true, c⟩ = { st with rows := addRows (some d) (fun i => if i = nid d then some ⟨true, c⟩ else none) st.rows } := by
      unfold St.newRow
      rw [h.drop_unborn hid]
      have : (fun i => if i = nid d then some (⟨true, c⟩ : Row) else st.rows i) = addRows (some d) (fun i => if i = nid d then some ⟨true, c⟩ else none) st.rows := by
       funext i
       unfold addRows
       by_cases hi : i = nid d
       · rw [hi, nset_nid hd]; simp
       · simp only [hi, if_false]
         split
         · rename_i hn; rw [h.noRow (hun i hn)]
         · rfl
      show ({ env := st.env, rows := fun i => if i = nid d then some (⟨true, c⟩ : Row) else st.rows i } : St) = _
      rw [this]
    rw [hst] at h2
    show K (a.put o.dst _) _
    rw [hdst]
    refine hK _ _ M' mu' h2 ?_ (fun q hq => h3 q fun e => ?_)
    · simp only [Rep]
      exact ⟨_, e1, .inr ⟨n, rfl, Nat.le_refl _, by simpa using hvl.symm⟩⟩
    · rw [e, nset_nid hd] at hq; cases hq
  · cases hs

/-! ### writing -/
theorem SR.storeCell (hX : XOK P X) (h : SR X.glob F w0 M0 w M mu a.tmps st) {t : TypeId} {i : TI} (ht : X.tt t = some i) (hsz : i.size = 1) {r off : Nat} {d : D} {u v : Value} (hu : Rep w M mu (.ptr r off) u) (hv : Rep w M mu d v) (hone : v.oneCell' = true)
    {old : List D} (hr : st.rows r = some ⟨true, .var old⟩) (hlt : off < old.length) : ∃ w', (Instr.storeAt t u v).run P w = .ok () w' ∧ SR X.glob F w0 M0 w' M mu a.tmps (st.setRow r ⟨true, .var (old.set off d)⟩) := by
  simp only [Rep] at hu
  obtain ⟨l, hl, hcell⟩ := hu
  cases l with
  | nowhere => simp [Loc.cell] at hcell
  | at_ b base size =>
    simp only [Loc.cell] at hcell
    subst hcell
    obtain ⟨cs, T, cv, k1, k2, k3, k4, k5⟩ := h.rowAt hr rfl hl
    have hlen := k3.len
    have hlen' : cv.length = old.length := hlen
    have e1 : ContRep w M mu (.var (old.set off d)) (cv.set off v) := ⟨RepL.set hv off k3.1, fun u hu => by
      rcases List.mem_or_eq_of_mem_set hu with h1 | h1
      · exact k3.2 u h1
      · rw [h1]; exact hone⟩
    have hcl : v.cells = #[v] := by cases v <;> simp_all [Value.oneCell', Value.cells]
    refine ⟨w.setCell ⟨b, base + off, none⟩ v, ?_, h.write hr rfl hl (setCell_keeps w ⟨b, base + off, none⟩ v) e1 (setCell_heap k1 (base + off) v) (by simpa using k2) (by simpa using k4) ?_⟩
    · have hst := run_storeCells_cells (P := P) b (base + off) [v] 0 w (fun q hq => cell_some k1 (by simp at hq; omega)) (fun q hq => frozen_no k1 _ _) (by simpa using hone)
      simp only [Nat.add_zero, World.setCells] at hst
      simp [Instr.storeAt, Instr.sureAddr, Go.storeVar, sizeOf_run hX ht, hsz, hcl, hst]
    · intro q hq
      simp only [List.length_set] at hq
      rw [Array.getElem?_setIfInBounds]
      by_cases hqj : off = q
      · subst hqj
        rw [if_pos rfl, if_pos (by omega), List.getElem?_set_self (by omega)]
      · rw [if_neg (by omega), List.getElem?_set_ne hqj]
        exact k5 q hq

theorem scal_one {d : D} {v : Value} (hs : scal d = true) (h : Rep w M mu d v) : v.oneCell' = true := by
  cases d <;> simp [scal] at hs <;> simp only [Rep] at h <;> subst h <;> rfl

theorem cell1_one {d : D} {v : Value} (hs : cell1 d = true) (h : Rep w M mu d v) : v.oneCell' = true := by
  cases d <;> simp [cell1] at hs <;> simp only [Rep] at h
  case bool => subst h; rfl
  case int => subst h; rfl
  case str => subst h; rfl
  case nil => obtain ⟨A, rfl⟩ := h; rfl
  case rsl =>
    obtain ⟨l, _, h⟩ := h
    cases l with
    | nowhere => obtain ⟨_, A, rfl⟩ := h; rfl
    | at_ b base size =>
      rcases h with ⟨_, _, A, rfl⟩ | ⟨c, rfl, _⟩ <;> rfl

def appendW (id : Nat) (ei : TI) (nk : NK) (x y : D) (rows : Nat → Option Row) : Option (D × Chg) :=
  if ei.size = 1 ∧ ei.bytes ≤ 64 then
    match srcC rows y with
    | none => none
    | some none => match x with
      | .nil k => some (.nil (if k = .unk then nk else k), .keep)
      | .rsl r off n => some (.rsl r off n, .keep)
      | _ => none
    | some (some cy) => match x with
      | .nil _ => if cy.len ≤ lim then some (.rsl id 0 cy.len, .add cy) else none
      | .rsl r off n => match rows r with
        | some ⟨true, cx⟩ => if cx.isVar then none
          else if off + n = cx.len then
            (if n + cy.len ≤ lim then match cx.sub off n with
              | some c0 => (c0.app cy).map fun c => (.rsl id 0 (n + cy.len), .app r c)
              | none => none else none)
          else if off + n + cy.len ≤ cx.len then (cx.over (off + n) cy).map fun c => (.rsl r off (n + cy.len), .set r c)
          else none
        | _ => none
      | _ => none
  else none

theorem appendD_W (id : Nat) (ei : TI) (nk : NK) (x y : D) (st : St) : appendD X id ei nk x y st = (appendW id ei nk x y st.rows).map fun p => (p.1, p.2.apply id st) := by
  unfold appendD appendW
  split
  · cases srcC st.rows y with
    | none => rfl
    | some q => cases q with
      | none => cases x <;> rfl
      | some cy => cases x with
        | nil k => dsimp only; split <;> rfl
        | rsl r off n =>
          dsimp only
          cases st.rows r with
          | none => rfl
          | some row =>
            obtain ⟨wr, cx⟩ := row
            cases wr with
            | false => rfl
            | true =>
              dsimp only
              split
              · rfl
              · split
                · split
                  · cases cx.sub off n with
                    | none => rfl
                    | some c0 => dsimp only; cases c0.app cy <;> rfl
                  · rfl
                · split
                  · cases cx.over (off + n) cy <;> rfl
                  · rfl
        | _ => rfl
  · rfl

theorem Chg.rows_env (id : Nat) (env : List D) (rows : Nat → Option Row) (c : Chg) : (c.apply id ⟨env, rows⟩).rows = (c.apply id ⟨[], rows⟩).rows := by cases c <;> rfl

theorem Chg.env_of (h : SR X.glob F w0 M0 w M mu a.tmps st) {id : Nat} (hid : mu id = none) (c : Chg) : (c.apply id st).env = st.env := by
  cases c with
  | keep => rfl
  | add c => simp only [Chg.apply, St.newRow, h.drop_unborn hid]
  | app r c => simp only [Chg.apply, St.newRow, (h.forget r).drop_unborn hid]; rfl
  | set r c => rfl

def Chg.flat : Chg → Prop
  | .keep | .set _ _ => True
  | _ => False

theorem chg_rows {c : Chg} (hc : c.flat) : c.apply 0 st = { st with rows := (c.apply 0 ⟨[], st.rows⟩).rows } := by
  cases c with
  | keep => rfl
  | set r c => rfl
  | _ => exact hc.elim

theorem writeD_sound (hX : XOK P X) (h : SR X.glob F w0 M0 w M mu a.tmps st) (hw : SR X.glob F w0 M0 w M mu a.tmps st1) {o : Oper} (hlt : ∀ d, o.dst = some d → d < 10000) (hun : ∀ id, nset o.dst id = true → mu id = none) {p : D × (Nat → Option Row)} (hs : writeD X st1 st.rows o = some p)
    {K : Act → World → Prop} {Q : Exit → Act → World → Prop} (hK : ∀ v w' M' mu', SR X.glob F w0 M0 w' M' mu' a.tmps { st with rows := p.2 } → Rep w' M' mu' p.1 v → (∀ r, nset o.dst r = false → mu' r = mu r) → K (a.put o.dst v) w') : o.wp P a w K Q := by
  unfold writeD at hs
  split at hs
  · rename_i args argTypes d hop hdst
    rw [hdst] at hlt hun hK
    have hd := hlt d rfl
    split at hs
    case h_2 => cases hs
    rename_i x y t ty hargs hty
    split at hs
    case h_2 => cases hs
    rename_i e ei e' _ _ _ hel hty2
    obtain ⟨⟨r, s⟩, ha, rfl⟩ := Option.map_eq_some_iff.1 hs
    obtain ⟨hu, he⟩ := elemOf_spec hX hel
    have hk := (hX.tt _ _ hty2).kind
    obtain rfl : args = #[x, y] := by cases args; simp_all
    obtain rfl : argTypes = #[t, ty] := by cases argTypes; simp_all
    have hid := hun (nid d) (nset_nid hd)
    rw [appendD_W] at ha
    obtain ⟨⟨r', c⟩, hc, e0⟩ := Option.map_eq_some_iff.1 ha
    simp only [Prod.mk.injEq] at e0
    obtain ⟨rfl, rfl⟩ := e0
    have hfull : appendD X (nid d) ei (nkElem X e) (ev X st1 x) (ev X st1 y) st = some (r', c.apply (nid d) st) := by
      rw [appendD_W, hc]; rfl
    obtain ⟨v, w', M', mu', h1, h2, h3, h4⟩ := append_sound (t' := o.type) hX h hu he hk (nid_pin d) (ev_rep hw x) (ev_rep hw y) hfull
    have hrun : (execOp a.eval o).run P w = .ok (.value v) w' := by simp [execOp, hop, resolve, invoke, builtin, h1]
    unfold Oper.wp
    rw [hrun]
    show K (a.put o.dst v) w'
    rw [hdst]
    have hst : c.apply (nid d) st = { st with rows := (c.apply (nid d) ⟨[], st.rows⟩).rows } := by
      have e1 := c.env_of h hid
      have e2 := c.rows_env (nid d) st.env st.rows
      cases st with
      | mk env rows =>
        generalize hq : c.apply (nid d) ⟨env, rows⟩ = q at *
        cases q with
        | mk e r => simp only at e1 e2; rw [e1, e2]
    rw [hst] at h2
    exact hK v w' M' mu' h2 h3 fun q hq => h4 q fun e => by rw [e, nset_nid hd] at hq; cases hq
  · rename_i t ad x hop hdst
    split at hs
    case h_3 => cases hs
    case h_2 =>
      rename_i i r off ht had
      split at hs
      case isFalse => cases hs
      rename_i hcond
      split at hs
      case h_2 => cases hs
      rename_i old hrow
      split at hs
      case isFalse => cases hs
      rename_i hlt
      cases hs
      have hA := ev_rep hw ad
      rw [had] at hA
      obtain ⟨w', h1, h2⟩ := SR.storeCell hX h ht hcond.1 hA (ev_rep hw x) (cell1_one hcond.2.2 (ev_rep hw x)) hrow hlt
      have hrun : (execOp a.eval o).run P w = .ok .skip w' := by simp [execOp, hop, h1]
      unfold Oper.wp
      rw [hrun, Oper.upon_skip]
      exact hK undef w' M mu h2 (by simp only [Rep]) (fun _ _ => rfl)
    rename_i i r j ht had
    split at hs
    case isFalse => cases hs
    rename_i hcond
    split at hs
    case h_2 => cases hs
    rename_i c hrow
    split at hs
    case isTrue => cases hs
    obtain ⟨c', hc', rfl⟩ := Option.map_eq_some_iff.1 hs
    have hA := ev_rep hw ad
    rw [had] at hA
    obtain ⟨w', h1, h2⟩ := SR.storeEl hX h ht hcond.1 hA (ev_rep hw x) hrow hc'
    have hrun : (execOp a.eval o).run P w = .ok .skip w' := by simp [execOp, hop, h1]
    unfold Oper.wp
    rw [hrun, Oper.upon_skip]
    have := hK undef w' M mu h2 (by simp only [Rep]) (fun _ _ => rfl)
    exact this
  · -- copy
    rename_i args argTypes hop
    split at hs
    case h_2 => cases hs
    rename_i x y t ty hargs hty
    split at hs
    case h_2 => cases hs
    rename_i e ei e' _ _ _ hel hty2
    split at hs
    case isFalse => cases hs
    rename_i hsz
    obtain ⟨⟨r, c⟩, ha, rfl⟩ := Option.map_eq_some_iff.1 hs
    obtain ⟨hu, he⟩ := elemOf_spec hX hel
    have hk := (hX.tt _ _ hty2).kind
    obtain rfl : args = #[x, y] := by cases args; simp_all
    obtain rfl : argTypes = #[t, ty] := by cases argTypes; simp_all
    obtain ⟨v, w', h1, h2, h3⟩ := copy_sound (t' := o.type) hX h hu he hsz hk (ev_rep hw x) (ev_rep hw y) ha
    have hrun : (execOp a.eval o).run P w = .ok (.value v) w' := by simp [execOp, hop, resolve, invoke, builtin, h1]
    unfold Oper.wp
    rw [hrun]
    rw [chg_rows (by unfold copyW at ha; revert ha; repeat' split
                     all_goals (try simp)
                     all_goals (intros; subst_vars; trivial))] at h2
    exact hK v w' M mu h2 h3 (fun _ _ => rfl)
  · -- clear
    rename_i args argTypes hop
    split at hs
    case h_2 => cases hs
    rename_i x t hargs hty
    split at hs
    case h_2 => cases hs
    rename_i e ei hel
    split at hs
    case isFalse => cases hs
    rename_i hsz
    obtain ⟨⟨r, c⟩, ha, rfl⟩ := Option.map_eq_some_iff.1 hs
    obtain ⟨hu, he⟩ := elemOf_spec hX hel
    obtain rfl : args = #[x] := by cases args; simp_all
    obtain rfl : argTypes = #[t] := by cases argTypes; simp_all
    obtain ⟨v, w', h1, h2, h3⟩ := clear_sound (t' := o.type) hX h hu he hsz (ev_rep hw x) ha
    have hrun : (execOp a.eval o).run P w = .ok (.value v) w' := by simp [execOp, hop, resolve, invoke, builtin, h1]
    unfold Oper.wp
    rw [hrun]
    rw [chg_rows (by unfold clearW at ha; revert ha; repeat' split
                     all_goals (try simp)
                     all_goals (intros; subst_vars; trivial))] at h2
    exact hK v w' M mu h2 h3 (fun _ _ => rfl)
  · cases hs

end
end Go.PR
