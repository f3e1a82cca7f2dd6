/- Code and functions: the evaluator's word holds of the model. -/
import Derived.Test.YtdheehhnpjkdbaaDoorFwN4
import Derived.LoopN
set_option linter.unusedVariables false
set_option linter.unusedSimpArgs false
namespace Go.PR
open Go

section
variable {P : Program} {X : Ctx} {F : Nat → Prop} {w0 w w' : World} {M0 : Entry} {M : Nat → Prop} {mu : Nat → Option Loc} {a : Act} {st : St}

theorem evalRegion_sound (hX : XOK P X) {cl : FuncId → List D → List Row → Option Ret} (hcl : ∀ f args prows r, cl f args prows = some r → Sound P X f args prows r) {df : List Deferred} {id : Nat} {ops : Array Oper} {draw : Bool} {Q : Exit → Act → World → Prop} {st' : St} (h : After X F w0 M0 df st a w) (hs : evalRegion X cl ops draw st = some st') (hQ : ∀ a w, After X F w0 M0 df st' a w → Q .normal a w) :
    (Code.region id ops draw).wp P Q a w := by
  unfold evalRegion at hs
  cases draw with
  | false => exact region_sound hX hcl h hs hQ
  | true => exact draw_sound hX hcl h hs hQ

/-- Rounds of a loop. -/
theorem loop_sound {df : List Deferred} {body : Code} {ev : St → Option Out} {hint : Option Hint} (hb : ∀ {st a w out}, After X F w0 M0 df st a w → ev st = some out → body.wp P (OutOK X F w0 M0 df out) a w) :
    ∀ (n : Nat) {st a w out}, After X F w0 M0 df st a w → evalLoop hint ev n st = some out → Code.rounds P body (OutOK X F w0 M0 df out) n a w
  | 0, st, a, w, out, h, he => by simp [evalLoop] at he
  | n + 1, st, a, w, out, h, he => by
    rw [rounds_succ]
    obtain ⟨hd, M, mu, hs⟩ := h
    have h1 : After X F w0 M0 df (st.keep hint) a w := ⟨hd, M, mu, hs.keep hint⟩
    simp only [evalLoop] at he
    cases e : ev (st.keep hint) with
    | none => rw [e] at he; cases he
    | some o =>
      rw [e] at he
      refine wp_mono (hb h1 e) ?_
      intro ex a w ho
      cases o with
      | normal s =>
        cases ex <;> simp only [OutOK] at ho
        exact loop_sound hb n ho he
      | exit i s => cases he; have ho' := ho.keep hint; cases ex <;> first | exact ho' | (simp only [OutOK] at ho)
      | ret s => cases he; have ho' := ho.keep hint; cases ex <;> first | exact ho' | (simp only [OutOK] at ho)

theorem code_sound (hX : XOK P X) {cl : FuncId → List D → List Row → Option Ret} (hcl : ∀ f args prows r, cl f args prows = some r → Sound P X f args prows r) {df : List Deferred} {f : FuncId} {n : Nat} :
    ∀ (c : Code) (bid : Nat) {st : St} {a : Act} {w : World} {out : Out}, After X F w0 M0 df st a w → evalCode X cl f n bid c st = some out → c.wp P (OutOK X F w0 M0 df out) a w := by
  intro c
  induction c with
  | skip => intro bid st a w out h he; simp only [evalCode] at he; cases he; exact wp_skip h
  | label l => intro bid st a w out h he; simp only [evalCode] at he; cases he; exact wp_label h
  | region id ops draw =>
    intro bid st a w out h he
    simp only [evalCode] at he
    obtain ⟨s, hs, rfl⟩ := Option.map_eq_some_iff.1 he
    exact evalRegion_sound hX hcl h hs fun a w h => h
  | seq x y ihx ihy =>
    intro bid st a w out h he
    simp only [evalCode] at he
    refine wp_seq ?_
    cases e : evalCode X cl f n bid x st with
    | none => rw [e] at he; cases he
    | some o =>
      rw [e] at he
      refine wp_mono (ihx bid h e) ?_
      intro ex a w ho
      cases o with
      | normal s =>
        cases ex <;> simp only [OutOK] at ho
        exact ihy bid ho he
      | exit i s => cases he; cases ex <;> first | exact ho | (simp only [OutOK] at ho)
      | ret s => cases he; cases ex <;> first | exact ho | (simp only [OutOK] at ho)
  | cond c x y ihx ihy =>
    intro bid st a w out h he
    simp only [evalCode] at he
    split at he
    case h_2 => cases he
    rename_i b hb
    obtain ⟨hd, M, mu, hs⟩ := h
    have hr := ev_rep hs c
    rw [hb] at hr
    simp only [Rep] at hr
    refine wp_cond hr ?_
    cases b with
    | true => exact ihx bid ⟨hd, M, mu, hs⟩ he
    | false => exact ihy bid ⟨hd, M, mu, hs⟩ he
  | block id body ih =>
    intro bid st a w out h he
    simp only [evalCode] at he
    refine wp_block ?_
    cases e : evalCode X cl f n id body st with
    | none => rw [e] at he; cases he
    | some o =>
      rw [e] at he
      refine wp_mono (ih id h e) ?_
      intro ex a w ho
      cases o with
      | normal s => cases he; cases ex <;> first | exact ho | (simp only [OutOK] at ho)
      | exit i s =>
        cases ex <;> simp only [OutOK] at ho
        obtain ⟨rfl, ho⟩ := ho
        simp only at he
        simp only [Exit.inBlock]
        split at he
        · rename_i hi; cases he; rw [if_pos hi]; exact ho
        · rename_i hi; cases he; rw [if_neg hi]; exact ⟨rfl, ho⟩
      | ret s => cases he; cases ex <;> first | exact ho | (simp only [OutOK] at ho)
  | loop body ih =>
    intro bid st a w out h he
    simp only [evalCode] at he
    exact wp_loop_rounds n (loop_sound (fun h e => ih bid h e) n h he)
  | exit id => intro bid st a w out h he; simp only [evalCode] at he; cases he; exact wp_exit ⟨rfl, h⟩
  | ret => intro bid st a w out h he; simp only [evalCode] at he; cases he; exact wp_ret h
  | _ => intro bid st a w out h he; simp [evalCode] at he

/-! ### functions -/
def resOne (tmps : Array Value) : ResultVar → Sem Value
  | .tmp t => pure (tmps.getD t undef)
  | .cell b t => do loadVar t (← asAddr (tmps.getD b undef))

theorem results_eq (fn : Func) (tmps : Array Value) : results fn tmps = (do let vs ← fn.results.mapM (resOne tmps); pure (if h : vs.size = 1 then vs[0] else .tuple vs)) := by
  unfold results
  congr 1

theorem resD_sound (hX : XOK P X) (h : SR X.glob F w0 M0 w M mu a.tmps st) : ∀ (l : List ResultVar) {ds : List D}, mapO (resD X st) l = some ds →
    ∃ vs : List Value, (l.mapM (resOne a.tmps)).run P w = .ok vs w ∧ RepL w M mu ds vs
  | [], ds, he => by simp only [mapO] at he; cases he; exact ⟨[], by simp, by simp only [RepL]⟩
  | x :: l, ds, he => by
    simp only [mapO] at he
    split at he
    case h_2 => cases he
    rename_i d ds' h1 h2
    cases he
    obtain ⟨vs, h3, h4⟩ := resD_sound hX h l h2
    cases x with
    | tmp t =>
      simp only [resD] at h1
      cases h1
      exact ⟨a.tmps.getD t undef :: vs, by simp only [List.mapM_cons, resOne, Sem.run_bind, Sem.run_pure, Result.andThen_ok, h3], by simp only [RepL]; exact ⟨h.get t, h4⟩⟩
    | cell b t =>
      simp only [resD] at h1
      split at h1
      case h_2 => cases h1
      rename_i i ht
      obtain ⟨u, h5, h6⟩ := loadD_sound hX h ht (h.get b) h1
      have h7 : (resOne a.tmps (.cell b t)).run P w = .ok u w := by
        show (do loadVar t (← asAddr (a.tmps.getD b undef)) : Sem Value).run P w = .ok u w
        generalize a.tmps.getD b undef = v at h5 ⊢
        cases v with
        | pointer p => cases p with
          | some p => simpa [Instr.loadAt, Instr.sureAddr, asAddr] using h5
          | none => simp [Instr.loadAt, Instr.sureAddr] at h5
        | _ => simp [Instr.loadAt, Instr.sureAddr] at h5
      exact ⟨u :: vs, by simp only [List.mapM_cons, Sem.run_bind, h7, h3, Result.andThen_ok, Sem.run_pure], by simp only [RepL]; exact ⟨h6, h4⟩⟩

theorem results_run (hX : XOK P X) {fn : Func} (h : SR X.glob F w0 M0 w M mu a.tmps st) {ds : List D} (he : mapO (resD X st) fn.results.toList = some ds) : ∃ v, (results fn a.tmps).run P w = .ok v w ∧ Rep w M mu (oneOr ds) v := by
  obtain ⟨vs, h1, h2⟩ := resD_sound hX h _ he
  have h3 : (results fn a.tmps).run P w = .ok (if h : vs.toArray.size = 1 then vs.toArray[0] else .tuple vs.toArray) w := by
    rw [results_eq, Array.mapM_eq_mapM_toList]
    simp only [Sem.run_bind, Sem.run_map, h1, Result.andThen_ok, Sem.run_pure]
  refine ⟨_, h3, ?_⟩
  unfold oneOr
  cases ds with
  | nil => cases vs with
    | nil => simp only [Rep]; exact ⟨[], by simp, by simp only [RepL]⟩
    | cons => simp only [RepL] at h2
  | cons d ds => cases vs with
    | nil => simp only [RepL] at h2
    | cons v vs =>
      simp only [RepL] at h2
      cases ds with
      | nil => cases vs with
        | nil => simpa using h2.1
        | cons => simp only [RepL] at h2; exact h2.2.elim
      | cons d2 ds => cases vs with
        | nil => simp only [RepL] at h2; exact h2.2.elim
        | cons v2 vs => simp only [Rep]; exact ⟨v :: v2 :: vs, by simp, by simp only [RepL] at h2 ⊢; exact h2⟩

theorem export_sound {G : Nat → Option D} {tmps : Array Value} {np : Nat} {F : Nat → Prop} (h : SR G F w0 M0 w M mu tmps st) {d : D} {v : Value} (hv : Rep w M mu d v) {r : Ret} (he : export_ np st d = some r) :
    ∃ mu', SR G F w0 M0 w M mu' #[v] ⟨[r.res], rowsBack r⟩ := by
  unfold export_ at he
  dsimp only at he
  generalize reach st.rows [d] = own at he
  generalize hmore : (reach st.rows (((List.range np).map (PB + ·)).map fun i => .ptr i 0)).filter (fun i => !(decide (PB ≤ i) && decide (i < XB)) && !own.contains i) = more at he
  split at he
  case h_2 => cases he
  rename_i rows hrows
  split at he
  case isFalse => cases he
  rename_i hnd
  have he := Option.some.inj he
  subst he
  generalize hE : own ++ more = E at *
  let mu2 : Nat → Option Loc := fun i => if XB ≤ i then (match E[i - XB]? with | some q => mu q | none => mu i) else mu i
  have m1 : ∀ i, i < XB → mu2 i = mu i := fun i hi => by simp only [mu2]; rw [if_neg (Nat.not_le.2 hi)]
  have m2 : ∀ (j q : Nat), E[j]? = some q → mu2 (XB + j) = mu q := fun j q hj => by
    simp only [mu2]; rw [if_pos (Nat.le_add_right _ _), Nat.add_sub_cancel_left, hj]
  clear_value mu2
  have hren : ∀ r i, outNo E r = some i → mu2 i = mu r := fun r i e => by
    unfold outNo at e
    split at e
    · rename_i j hj
      have e := Option.some.inj e
      rw [← e]
      exact m2 j r (idx_spec hj)
    · split at e
      · rename_i hp; have e := Option.some.inj e; rw [← e]; exact m1 _ hp.2
      · cases e
  have kind : ∀ i row, rowsBack { res := d.ren (outNo E), passed := ((List.range np).map (PB + ·)).map fun i => if own.contains i then none else (st.rows i).map (·.ren (outNo E)), out := rows.map (·.ren (outNo E)) } i = some row →
      ∃ q row0, st.rows q = some row0 ∧ row = row0.ren (outNo E) ∧ mu2 i = mu q ∧ ((∃ j, i = XB + j ∧ E[j]? = some q) ∨ (i = q ∧ PB ≤ i ∧ i < XB ∧ q ∉ E)) := by
    intro i row hr
    unfold rowsBack at hr
    dsimp only at hr
    split at hr
    · rename_i hi
      rw [List.getElem?_map] at hr
      obtain ⟨row0, hr0, rfl⟩ := Option.map_eq_some_iff.1 hr
      obtain ⟨q, hq, hq2⟩ := (mapO_get hrows).2 _ _ hr0
      refine ⟨q, row0, hq2, rfl, ?_, .inl ⟨i - XB, (add_sub_back hi).symm, hq⟩⟩
      have := m2 _ _ hq
      rw [add_sub_back hi] at this
      exact this
    · rename_i hi
      split at hr
      · rename_i hi2
        rw [List.getElem?_map] at hr
        cases e : ((List.range np).map (PB + ·))[i - PB]? with
        | none => rw [e] at hr; cases hr
        | some q =>
          rw [e] at hr
          simp only [Option.map_some, Option.getD_some] at hr
          have hq : q = i := by
            rw [List.getElem?_map] at e
            obtain ⟨j, hj, e⟩ := Option.map_eq_some_iff.1 e
            rw [List.getElem?_range] at hj
            · have hj := Option.some.inj hj; rw [← e, ← hj]; exact add_sub_back hi2
            · rcases Nat.lt_or_ge (i - PB) np with h | h
              · exact h
              · rw [List.getElem?_eq_none (by simpa using h)] at hj; cases hj
          subst hq
          split at hr
          · cases hr
          · rename_i hown
            obtain ⟨row0, hr0, rfl⟩ := Option.map_eq_some_iff.1 hr
            refine ⟨q, row0, hr0, rfl, m1 _ (Nat.lt_of_not_le hi), .inr ⟨rfl, hi2, Nat.lt_of_not_le hi, ?_⟩⟩
            rw [← hE]
            intro hm
            rcases List.mem_append.1 hm with hm | hm
            · exact hown (List.contains_iff_mem.2 hm)
            · rw [← hmore] at hm
              have := (List.mem_filter.1 hm).2
              rw [decide_eq_true hi2, decide_eq_true (Nat.lt_of_not_le hi)] at this
              simp at this
      · cases hr
  refine ⟨mu2, { h with env := ?_, rows := ?_, apart := ?_, pin := ?_ }⟩
  · simp only [RepL]; exact ⟨Rep.ren hren _ hv, trivial⟩
  · intro i row hr
    obtain ⟨q, row0, h1, rfl, h2, _⟩ := kind i row hr
    exact (h.rows q row0 h1).ren hren h2
  · intro i j ri rj b hij hi hj mi mj bi bj
    obtain ⟨q, row0, h1, rfl, h2, h3⟩ := kind i ri hi
    obtain ⟨q', row0', h1', rfl, h2', h3'⟩ := kind j rj hj
    refine h.apart q q' row0 row0' b (fun e => ?_) h1 h1' mi mj (by rw [← h2]; exact bi) (by rw [← h2']; exact bj)
    subst e
    rcases h3 with ⟨k, rfl, hk⟩ | ⟨rfl, _, _, hk⟩ <;> rcases h3' with ⟨k', rfl, hk'⟩ | ⟨rfl, _, _, hk'⟩
    · have e1 := nodup_idx hnd hk
      have e2 := nodup_idx hnd hk'
      rw [e1] at e2
      exact hij (congrArg (XB + ·) (Option.some.inj e2))
    · exact hk' (List.mem_of_getElem? hk)
    · exact hk (List.mem_of_getElem? hk')
    · exact hij rfl
  · intro i hi
    exact (m1 i hi.2).trans (h.pin i hi)

theorem replicate_und (n : Nat) : RepL w M mu (List.replicate n .und) (List.replicate n undef) := by
  induction n with
  | zero => simp only [List.replicate, RepL]
  | succ n ih => simp only [List.replicate, RepL]; exact ⟨by simp only [Rep], ih⟩

/-- What the evaluator says of a function holds of the model. -/
theorem evalFn_sound (hX : XOK P X) (hpr : ∀ f args prows r, X.prim f args prows = some r → Sound P X f args prows r) : ∀ (k : Nat) (f : FuncId) (args : List D) (prows : List Row) (r : Ret), evalFn X k f args prows = some r → Sound P X f args prows r
  | 0, f, args, prows, r, h => by simp [evalFn] at h
  | k + 1, f, args, prows, r, h => by
    simp only [evalFn] at h
    split at h
    case h_1 => rename_i r' hr'; cases h; exact hpr f args prows _ hr'
    split at h
    case h_2 => cases h
    rename_i fn hfn
    split at h
    case h_2 => cases h
    rename_i c hc
    have fin : ∀ st, (match mapO (resD X st) fn.results.toList with
          | some ds => export_ prows.length st (oneOr ds)
          | none => none) = some r → ∀ {w : World} {M : Nat → Prop} {mu : Nat → Option Loc}, ∀ a w', After X (Fset w mu prows.length) w ⟨M, mu⟩ [] st a w' → a.defers = [] ∧ ∃ v, (results fn a.tmps).run P w' = .ok v w' ∧ ∃ v' M' mu', Ending.returned v = .returned v' ∧ SR X.glob (Fset w mu prows.length) w ⟨M, mu⟩ w' M' mu' #[v'] ⟨[r.res], rowsBack r⟩ := by
      intro st hst w M mu a w' ha
      obtain ⟨hd, M', mu', hs⟩ := ha
      split at hst
      case h_2 => cases hst
      rename_i ds hds
      obtain ⟨v, h1, h2⟩ := results_run hX hs hds
      obtain ⟨mu2, h3⟩ := export_sound hs h2 hst
      exact ⟨hd, v, h1, v, M', mu2, rfl, h3⟩
    intro w M mu vs hs
    have hlen : args.length = vs.length := by simpa using RepL.length hs.env
    obtain ⟨hf, _⟩ := hX.ft f fn hfn
    refine calls_of_wp hf hc ?_
    have hin : After X (Fset w mu prows.length) w ⟨M, mu⟩ [] { env := args ++ List.replicate (fn.ntmps - args.length) .und, rows := rowsIn prows } { tmps := vs.toArray ++ Array.replicate (fn.ntmps - vs.toArray.size) undef, defers := [] } w := by
      refine ⟨rfl, M, mu, { hs with env := ?_ }⟩
      simp only [Array.toList_append, Array.toList_replicate, List.size_toArray, hlen]
      exact RepL.append hs.env (replicate_und _)
    split at h
    · rename_i st hst
      refine wp_mono (code_sound hX (evalFn_sound hX hpr k) c 0 hin hst) ?_
      intro ex a w' ho
      cases ex <;> simp only [OutOK] at ho
      exact fin st h a w' ho
    · rename_i st hst
      refine wp_mono (code_sound hX (evalFn_sound hX hpr k) c 0 hin hst) ?_
      intro ex a w' ho
      cases ex <;> simp only [OutOK] at ho
      exact fin st h a w' ho
    · cases h

end
end Go.PR
