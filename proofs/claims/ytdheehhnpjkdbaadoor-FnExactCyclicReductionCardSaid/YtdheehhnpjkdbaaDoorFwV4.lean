/- The evaluator for unknown values: append, copy, calls; one operation. -/
import Derived.Test.YtdheehhnpjkdbaaDoorFwV3
set_option linter.unusedVariables false
set_option linter.unusedSimpArgs false
namespace Go.PR
open Go

def appendV (id : Nat) (ei : TI) (nk : NK) (x y : D) (s : LSt) : V (D × LSt) :=
  if ei.size = 1 ∧ ei.bytes ≤ 64 then vbind (srcV s.rl y) fun oc => match oc with
    | none => match x with
      | .nil k => vpure (.nil (if k = .unk then nk else k), s)
      | .rsl r off n => vpure (.rsl r off n, s)
      | _ => vfail
    | some cy => match x with
      | .nil _ => vbind (need (cy.len ≤ lim)) fun _ => vpure (.rsl id 0 cy.len, s.newRow id ⟨true, cy⟩)
      | .rsl r off n => match lget r s.rl with
        | some ⟨true, cx⟩ => if cx.isVar then vfail else vbind (vtell 3 (off + n = cx.len)) fun b =>
            if b then vbind (need (off + n = cx.len ∧ n + cy.len ≤ lim)) fun _ => vbind (subV cx off n) fun c0 => vbind (ofO (c0.app cy)) fun c => vpure (.rsl id 0 c.len, (s.forget r).newRow id ⟨true, c⟩)
            else vbind (need (off + n ≠ cx.len ∧ off + n + cy.len ≤ cx.len)) fun _ => vbind (ofO (cx.over (off + n) cy)) fun c => vpure (.rsl r off (n + cy.len), s.setRow r ⟨true, c⟩)
        | _ => vfail
      | _ => vfail
  else vfail

def appendZV (id : Nat) (ei : TI) (nk : NK) (x y : D) (s : LSt) : V (D × LSt) :=
  if ei.size = 1 ∧ ei.bytes ≤ 64 then match x, y with
    | .nil _, .int _ n => vbind (need (0 < n ∧ n ≤ lim)) fun _ => vbind (ofO (zeroC nk ei.zero n.toNat)) fun c => vpure (.rsl id 0 n.toNat, s.newRow id ⟨true, c⟩)
    | _, _ => vfail
  else vfail

def copyV (x y : D) (s : LSt) : V (D × LSt) :=
  vbind (srcV s.rl y) fun oc => match oc with
    | none => match x with
      | .nil _ => vpure (.int .i64 0, s)
      | .rsl _ _ _ => vpure (.int .i64 0, s)
      | _ => vfail
    | some cy => match x with
      | .nil _ => vpure (.int .i64 0, s)
      | .rsl r off n => vbind (vtell 4 (min cy.len n = 0)) fun b =>
          if b then vbind (need (min cy.len n = 0)) fun _ => vpure (.int .i64 0, s)
          else vbind (need (min cy.len n ≠ 0)) fun _ => match lget r s.rl with
            | some ⟨true, cx⟩ => if cx.isVar then vfail else vbind (need (off + n ≤ cx.len)) fun _ => vbind (subV cy 0 (min cy.len n)) fun c0 => vbind (ofO (cx.over off c0)) fun c => vpure (.int .i64 (min cy.len n : Nat), s.setRow r ⟨true, c⟩)
            | _ => vfail
      | _ => vfail

def clearV (nk : NK) (zero : List D) (x : D) (s : LSt) : V (D × LSt) :=
  match x with
  | .nil _ => vpure (.tup [], s)
  | .rsl r off n => vbind (vtell 4 (n = 0)) fun b =>
      if b then vbind (need (n = 0)) fun _ => vpure (.tup [], s)
      else vbind (need (n ≠ 0)) fun _ => match lget r s.rl with
        | some ⟨true, cx⟩ => if cx.isVar then vfail else vbind (need (off + n ≤ cx.len)) fun _ => vbind (ofO (zeroC nk zero n)) fun c0 => vbind (ofO (cx.over off c0)) fun c => vbind (vtell 5 (off + n = cx.len)) fun b2 => if b2 then vbind (need (off + n = cx.len)) fun _ => vbind (ofO (cx.upto off)) fun c2 => vpure (.tup [], s.setRow r ⟨true, c2⟩) else vbind (need (¬ off + n = cx.len)) fun _ => vpure (.tup [], s.setRow r ⟨true, c⟩)
        | _ => vfail
  | _ => vfail

def dropAllL : List Nat → LSt → LSt
  | [], s => s
  | i :: is, s => dropAllL is (s.drop i)

theorem dropAll_st : ∀ (is : List Nat) (s : LSt), (dropAllL is s).st = dropAll is s.st
  | [], _ => rfl
  | i :: is, s => by simp only [dropAllL, dropAll]; rw [dropAll_st is, drop_st]

def callV (X : Ctx) (dst : Nat) (f : FuncId) (args : List D) (s : LSt) : V (D × LSt) :=
  if X.byref f then
    let ids := reach (rowsOf s.rl) args
    match mapO (fun i => lget i s.rl) ids with
    | some rows =>
      if rows.all (·.wr) && decide (ids.length ≤ 1000) && nodupB ids then
        vbind (vcall f (D.renL (inF ids) args) (rows.map (·.ren (inF ids)))) fun r =>
          if decide (r.passed.length = ids.length) && decide (r.out.length ≤ 40) && (outIds dst r.out.length).all (fun i => !ids.contains i) then
            vpure (r.res.ren (outF ids dst r.out.length), ⟨(dropAllL (gone ids r ++ outIds dst r.out.length) s).env, outL ids dst r.out.length 0 r.out ++ (passL ids dst r.out.length ids r.passed ++ ldel (fun i => (outIds dst r.out.length).contains i || ids.contains i) (dropAllL (gone ids r ++ outIds dst r.out.length) s).rl)⟩)
          else vfail
      else vfail
    | none => vfail
  else
    let Z := reach (rowsOf s.rl) args
    vbind (mapV (reifyV s.rl Z allRows) args) fun args' => vbind (vcall f args' []) fun r =>
      if r.passed.isEmpty && decide (r.out.length ≤ 40) then
        let s0 := if Z.isEmpty || (r.res.noImm && r.out.all fun x => x.wr && x.c.noImm) then s else s.freeze Z
        vpure (r.res.ren (outF [] dst r.out.length), ⟨(dropAllL (outIds dst r.out.length) s0).env, outL [] dst r.out.length 0 r.out ++ ldel (fun i => (outIds dst r.out.length).contains i) (dropAllL (outIds dst r.out.length) s0).rl⟩)
      else vfail

def putP (dst : Option Tmp) (p : D × LSt) : LSt := p.2.put dst p.1

def stepV (X : Ctx) (o : Oper) (s : LSt) : V LSt :=
  match o.op, o.dst with
  | .assign x, some t => if t < 1000 then vpure (bindAtL (nkOf X o.type) t t (s.put (some t) (ev X s.st x))) else vfail
  | .alloc t, some d => match X.tt t with
    | some i => vpure ((boxRowL (nid d) i.zero s).put (some d) (.ptr (nid d) 0))
    | none => vfail
  | .box t x, some d => match X.tt t with
    | some i => if (ev X s.st x).known && (ev X s.st x).cells.length == i.size && (ev X s.st x).cells.all D.isCell then vpure ((boxRowL (nid d) (ev X s.st x).cells s).put (some d) (.ptr (nid d) 0)) else vfail
    | none => vfail
  | .store t ad x, none => match X.tt t with
    | some i => storeV i (ev X s.st ad) (ev X s.st x) s
    | none => vfail
  | .buildSlice t n parts, some d => match elemOf X t with
    | some (e, ei) => if ei.size = 1 ∧ n ≤ 1000000 then
        match parts01 0 (parts.toList.map fun p => (p.1, ev X s.st p.2)) with
        | some ds => if ds.length = n then
            match emptyC (nkElem X e) with
            | some c0 => vbind (buildCV (nkElem X e) ds c0 s) fun p => vpure ((p.2.newRow (nid d) ⟨true, p.1⟩).put (some d) (.rsl (nid d) 0 n))
            | none => vfail
          else vfail
        | none => vfail
      else vfail
    | none => vfail
  | .makeSlice t l c, some d => match elemOf X t, ev X s.st l, ev X s.st c with
    | some (e, ei), .int _ n, .int _ m => if ei.size = 1 ∧ ei.bytes ≤ 64 then vbind (need (0 ≤ n ∧ n ≤ m ∧ m ≤ lim)) fun _ =>
        vbind (ofO (zeroC (nkElem X e) ei.zero n.toNat)) fun c => vpure ((s.newRow (nid d) ⟨true, c⟩).put (some d) (.rsl (nid d) 0 n.toNat))
      else vfail
    | _, _, _ => vfail
  | .call { callee := .builtin .append, args, argTypes }, some d => match args.toList, argTypes.toList with
    | [x, y], [t, ty] => match elemOf X t, X.tt ty with
      | some (e, ei), some ⟨.slice _, _, _, _⟩ => vbind (appendV (nid d) ei (nkElem X e) (ev X s.st x) (ev X s.st y) s) fun p => vpure (putP (some d) p)
      | some (e, ei), some ⟨.int _, _, _, _⟩ => vbind (appendZV (nid d) ei (nkElem X e) (ev X s.st x) (ev X s.st y) s) fun p => vpure (putP (some d) p)
      | _, _ => vfail
    | _, _ => vfail
  | .call { callee := .builtin .copy, args, argTypes }, dst => match args.toList, argTypes.toList with
    | [x, y], [t, ty] => match elemOf X t, X.tt ty with
      | some (e, ei), some ⟨.slice _, _, _, _⟩ => if ei.size = 1 then vbind (copyV (ev X s.st x) (ev X s.st y) s) fun p => vpure (putP dst p) else vfail
      | _, _ => vfail
    | _, _ => vfail
  | .call { callee := .builtin .clear, args, argTypes }, dst => match args.toList, argTypes.toList with
    | [x], [t] => match elemOf X t with
      | some (e, ei) => if ei.size = 1 then vbind (clearV (nkElem X e) ei.zero (ev X s.st x) s) fun p => vpure (putP dst p) else vfail
      | none => vfail
    | _, _ => vfail
  | .call { callee := .value g, args, argTypes }, some d => match ev X s.st g with
    | .fn f cap => if (X.ft f).isNone then vfail else vbind (callV X d f (args.toList.map (ev X s.st) ++ cap) s) fun p => vpure (putP (some d) p)
    | _ => vfail
  | _, _ => vbind (quietV X s o) fun d => vpure (s.put o.dst d)

section
variable {X : Ctx} {cl : CL'} {lp : LP'} {s : LSt}

theorem app_len {a b c : Cont} (h : a.app b = some c) : c.len = a.len + b.len := by
  cases a <;> cases b <;> simp only [Cont.app] at h <;> first | (split at h <;> cases h <;> simp [Cont.len]; done) | (cases h; simp [Cont.len]; done) | cases h
  all_goals (split at h <;> first | (cases h; simp [Cont.len]; done) | cases h)

theorem subL_len {α : Type} (xs : List α) {off n : Nat} (h : off + n ≤ xs.length) : (subL xs off n).length = n := by
  unfold subL
  split
  · rename_i e; omega
  · simp; omega

theorem sub_len {a c : Cont} {off n : Nat} (h : a.sub off n = some c) (hl : off + n ≤ a.len) : c.len = n := by
  cases a <;> simp only [Cont.sub] at h <;> cases h <;> exact subL_len _ hl

theorem appendV_sim (id : Nat) (ei : TI) (nk : NK) (x y : D) : Sim cl lp (appendV id ei nk x y s) (appendD X id ei nk x y s.st) pairSt := by
  unfold appendV
  split
  case isFalse => exact Sim.fail
  rename_i hsz
  refine Sim.bind (srcV_sim y) fun oc hoc => ?_
  simp only [id_eq] at hoc
  cases oc with
  | none =>
    simp only
    cases x with
    | nil k => exact Sim.pure (by simp only [appendD, if_pos hsz, hoc, pairSt])
    | rsl r off n => exact Sim.pure (by simp only [appendD, if_pos hsz, hoc, pairSt])
    | _ => exact Sim.fail
  | some cy =>
    simp only
    cases x with
    | nil k => exact Sim.needs fun h => Sim.pure (by simp only [appendD, if_pos hsz, hoc, if_pos h, pairSt, newRow_st])
    | rsl r off n =>
      simp only
      split
      · rename_i cx hrow
        split
        · exact Sim.fail
        · rename_i hv
          refine Sim.tell fun b => ?_
          cases b with
          | true =>
            simp only [if_true]
            refine Sim.needs fun h => Sim.bind (subV_sim cx off n) fun c0 hc0 => Sim.opt fun c hc => Sim.pure ?_
            simp only [id_eq] at hc0
            have e1 : c.len = n + cy.len := by rw [app_len hc, sub_len hc0 (Nat.le_of_eq h.1)]
            rw [e1]
            simp only [appendD, if_pos hsz, hoc, st_rows, hrow, if_neg hv, if_pos h.1, if_pos h.2, hc0, hc, Option.map_some, pairSt, newRow_st, forget_st]
          | false =>
            simp only [Bool.false_eq_true, if_false]
            refine Sim.needs fun h => Sim.opt fun c hc => Sim.pure ?_
            simp only [appendD, if_pos hsz, hoc, st_rows, hrow, if_neg hv, if_neg h.1, if_pos h.2, hc, Option.map_some, pairSt, setRow_st]
      · exact Sim.fail
    | _ => exact Sim.fail

theorem appendZV_sim (id : Nat) (ei : TI) (nk : NK) (x y : D) : Sim cl lp (appendZV id ei nk x y s) (appendZ id ei nk x y s.st) pairSt := by
  unfold appendZV
  split
  case isFalse => exact Sim.fail
  rename_i hsz
  split
  · exact Sim.needs fun h => Sim.opt fun c hc => Sim.pure (by simp only [appendZ, if_pos hsz, if_pos h, hc, Option.map_some, pairSt, newRow_st])
  · exact Sim.fail

def chgL (c : Chg) (s : LSt) : LSt :=
  match c with
  | .keep => s
  | .set r c => s.setRow r ⟨true, c⟩
  | _ => s

theorem copyV_sim (x y : D) : Sim cl lp (copyV x y s) ((copyW x y s.st.rows).map fun p => (p.1, p.2.apply 0 s.st)) pairSt := by
  unfold copyV
  refine Sim.bind (srcV_sim y) fun oc hoc => ?_
  simp only [id_eq] at hoc
  cases oc with
  | none =>
    simp only
    cases x with
    | nil k => exact Sim.pure (by simp only [copyW, hoc]; rfl)
    | rsl r off n => exact Sim.pure (by simp only [copyW, hoc]; rfl)
    | _ => exact Sim.fail
  | some cy =>
    simp only
    cases x with
    | nil k => exact Sim.pure (by simp only [copyW, hoc]; rfl)
    | rsl r off n =>
      simp only
      refine Sim.tell fun b => ?_
      cases b with
      | true =>
        simp only [if_true]
        exact Sim.needs fun h => Sim.pure (by simp only [copyW, hoc, if_pos h]; rfl)
      | false =>
        simp only [Bool.false_eq_true, if_false]
        refine Sim.needs fun h => ?_
        split
        · rename_i cx hrow
          split
          · exact Sim.fail
          · rename_i hv
            refine Sim.needs fun h2 => Sim.bind (subV_sim cy 0 _) fun c0 hc0 => Sim.opt fun c hc => Sim.pure ?_
            simp only [id_eq] at hc0
            have hcond : ¬ (cx.isVar = true ∨ ¬ off + n ≤ cx.len) := by simp [hv, h2]
            simp only [copyW, hoc, if_neg h, st_rows, hrow, if_neg hcond, hc0, hc, Option.map_some, pairSt, setRow_st, Chg.apply]
        · exact Sim.fail
    | _ => exact Sim.fail

theorem clearV_sim (nk : NK) (zero : List D) (x : D) : Sim cl lp (clearV nk zero x s) ((clearW nk zero x s.st.rows).map fun p => (p.1, p.2.apply 0 s.st)) pairSt := by
  unfold clearV
  split
  · exact Sim.pure rfl
  · rename_i r off n
    refine Sim.tell fun b => ?_
    cases b with
    | true =>
      simp only [if_true]
      exact Sim.needs fun h => Sim.pure (by simp only [clearW, if_pos h]; rfl)
    | false =>
      simp only [Bool.false_eq_true, if_false]
      refine Sim.needs fun h => ?_
      split
      · rename_i cx hrow
        split
        · exact Sim.fail
        · rename_i hv
          refine Sim.needs fun h2 => Sim.opt fun c0 hc0 => Sim.opt fun c hc => Sim.tell fun b2 => ?_
          have hcond : ¬ (cx.isVar = true ∨ ¬ off + n ≤ cx.len) := by simp [hv, h2]
          cases b2 with
          | true =>
            simp only [if_true]
            refine Sim.needs fun h3 => Sim.opt fun c2 hc2 => Sim.pure ?_
            simp only [clearW, if_neg h, st_rows, hrow, if_neg hcond, hc0, if_pos h3, hc, hc2, Option.map_some, pairSt, setRow_st, Chg.apply]
          | false =>
            simp only [Bool.false_eq_true, if_false]
            refine Sim.needs fun h3 => Sim.pure ?_
            simp only [clearW, if_neg h, st_rows, hrow, if_neg hcond, hc0, if_neg h3, hc, Option.map_some, pairSt, setRow_st, Chg.apply]
      · exact Sim.fail
  · exact Sim.fail

theorem nodup_of {ids : List Nat} (h : nodupB ids = true) : ids.Nodup := by
  unfold List.Nodup
  rw [List.pairwise_iff_getElem]
  intro i j hi hj hij he
  have h1 := List.getElem?_eq_getElem hi
  have h2 := List.getElem?_eq_getElem hj
  rw [he] at h1
  have a := nodup_idx h h1
  have b := nodup_idx h h2
  rw [a] at b
  cases b
  omega

theorem callV_sim (dst : Nat) (f : FuncId) (args : List D) : Sim cl lp (callV X dst f args s) (callD X cl dst f args s.st) pairSt := by
  have hrows : s.st.rows = rowsOf s.rl := rfl
  have hget : (fun i => lget i s.rl) = rowsOf s.rl := by funext i; exact (rowsOf_get s.rl i).symm
  unfold callV
  split
  · rename_i hb
    dsimp only
    rw [hget]
    split
    · rename_i rows hr
      split
      · rename_i hc
        refine Sim.call fun r hcall => ?_
        split
        · rename_i hc2
          refine Sim.pure ?_
          have hc2' := hc2
          simp only [Bool.and_eq_true, decide_eq_true_eq, List.all_eq_true, Bool.not_eq_true'] at hc hc2'
          unfold callD
          rw [if_pos hb]
          dsimp only
          rw [hrows, hr]
          dsimp only
          have hcc : (rows.all (·.wr) && decide ((reach (rowsOf s.rl) args).length ≤ 1000) && nodupB (reach (rowsOf s.rl) args)) = true := by simp [hc.1.2, hc.2]; simpa using hc.1.1
          rw [if_pos hcc, hcall]
          dsimp only
          rw [if_pos hc2]
          rw [← dropAll_st (gone (reach (rowsOf s.rl) args) r ++ outIds dst r.out.length) s]
          obtain ⟨res, ps, outs⟩ := r
          have hbe := behind_ids (reach (rowsOf s.rl) args) dst res ps outs (dropAllL (gone (reach (rowsOf s.rl) args) ⟨res, ps, outs⟩ ++ outIds dst outs.length) s).rl (nodup_of hc.2) hc2'.1.1 hc2'.1.2 (fun i hi hm => by have := hc2'.2 i hi; simp at this; exact this hm)
          simp only [pairSt, LSt.st]
          rw [hbe]
        · exact Sim.fail
      · exact Sim.fail
    · exact Sim.fail
  · rename_i hb
    dsimp only
    refine Sim.bind (mapV_sim (reifyV_sim (s := s) (reach (rowsOf s.rl) args) allRows) args) fun args' ha => Sim.call fun r hcall => ?_
    simp only [id_eq] at ha
    split
    · rename_i hc
      refine Sim.pure ?_
      have hc' := hc
      simp only [Bool.and_eq_true, decide_eq_true_eq, List.isEmpty_iff] at hc'
      unfold callD
      rw [if_neg hb]
      dsimp only
      rw [hrows] at ha ⊢
      rw [ha]
      dsimp only
      rw [hcall]
      dsimp only
      rw [if_pos hc]
      generalize hs0 : (if (reach (rowsOf s.rl) args).isEmpty || (r.res.noImm && r.out.all fun x => x.wr && x.c.noImm) then s else s.freeze (reach (rowsOf s.rl) args)) = s0
      have e0 : (if (reach (rowsOf s.rl) args).isEmpty || (r.res.noImm && r.out.all fun x => x.wr && x.c.noImm) then s.st else s.st.freeze (reach (rowsOf s.rl) args)) = s0.st := by
        rw [← hs0]
        split
        · rfl
        · exact (freeze_st _ _).symm
      rw [e0]
      rw [← dropAll_st (outIds dst r.out.length) s0]
      obtain ⟨res, ps, outs⟩ := r
      have hps : ps = [] := hc'.1
      subst hps
      have hbe := behind_nil dst res outs (dropAllL (outIds dst outs.length) s0).rl hc'.2
      simp only [pairSt, LSt.st]
      rw [hbe]
    · exact Sim.fail

theorem putP_st (dst : Option Tmp) (p : D × LSt) : (putP dst p).st = (pairSt p).2.setD dst (pairSt p).1 := put_st _ _ _

theorem stepV_sim (o : Oper) : Sim cl lp (stepV X o s) (step X cl o s.st) LSt.st := by
  have quietCase : step X cl o s.st = (quiet X s.st o).map (fun d => s.st.setD o.dst d) → Sim cl lp (vbind (quietV X s o) fun d => vpure (s.put o.dst d)) (step X cl o s.st) LSt.st := by
    intro h
    refine Sim.bind (quietV_sim o) fun d hd => Sim.pure ?_
    simp only [id_eq] at hd
    rw [h, hd, put_st]; rfl
  unfold stepV
  split
  · rename_i x t hop hdst
    split
    · rename_i ht
      refine Sim.pure ?_
      simp only [step, hop, hdst, if_pos ht, bindAt_st]
      rfl
    · exact Sim.fail
  · rename_i t d hop hdst
    split
    · rename_i i ht
      exact Sim.pure (by simp only [step, hop, hdst, ht, Option.map_some, put_st, boxRow_st])
    · exact Sim.fail
  · rename_i t x d hop hdst
    split
    · rename_i i ht
      split
      · rename_i hc
        exact Sim.pure (by simp only [step, hop, hdst, ht, if_pos hc, put_st, boxRow_st])
      · exact Sim.fail
    · exact Sim.fail
  · rename_i t ad x hop hdst
    split
    · rename_i i ht
      have : step X cl o s.st = storeD X s.st i (ev X s.st ad) (ev X s.st x) := by simp only [step, hop, hdst, ht]
      rw [this]; exact storeV_sim _ _ _
    · exact Sim.fail
  · rename_i t n parts d hop hdst
    split
    · rename_i e ei hel
      split
      · rename_i hsz
        split
        · rename_i ds hds
          split
          · rename_i hn
            split
            · rename_i c0 hc0
              refine Sim.bind (buildCV_sim (X := X) _ ds c0 s) fun p hp => Sim.pure ?_
              simp only [step, hop, hdst, hel, if_pos hsz, hds, if_pos hn, hc0, hp, Option.map_some, pairSt, put_st, newRow_st]
            · exact Sim.fail
          · exact Sim.fail
        · exact Sim.fail
      · exact Sim.fail
    · exact Sim.fail
  · rename_i t l c d hop hdst
    split
    · rename_i e ei k1 n k2 m hel hl hc
      split
      · rename_i hsz
        refine Sim.needs fun h => Sim.opt fun cc hcc => Sim.pure ?_
        have hcond : ei.size = 1 ∧ ei.bytes ≤ 64 ∧ 0 ≤ n ∧ n ≤ m ∧ m ≤ lim := ⟨hsz.1, hsz.2, h⟩
        simp only [step, hop, hdst, hel, hl, hc, if_pos hcond, hcc, Option.map_some, put_st, newRow_st]
      · exact Sim.fail
    · exact Sim.fail
  · rename_i args argTypes d hop hdst
    split
    · rename_i x y t ty hargs hty
      split
      · rename_i e ei e' sz by_ z hel hty2
        refine Sim.bind (appendV_sim (X := X) _ ei _ _ _) fun p hp => Sim.pure ?_
        simp only [step, hop, hdst, hargs, hty, hel, hty2, hp, Option.map_some, putP_st]
      · rename_i e ei kn sz by_ z hel hty2
        refine Sim.bind (appendZV_sim _ ei _ _ _) fun p hp => Sim.pure ?_
        simp only [step, hop, hdst, hargs, hty, hel, hty2, hp, Option.map_some, putP_st]
      · exact Sim.fail
    · exact Sim.fail
  · rename_i args argTypes hop
    split
    · rename_i x y t ty hargs hty
      split
      · rename_i e ei e' sz by_ z hel hty2
        split
        · rename_i hsz
          refine Sim.bind (copyV_sim _ _) fun p hp => Sim.pure ?_
          obtain ⟨⟨r, c⟩, h1, h2⟩ := Option.map_eq_some_iff.1 hp
          simp only [step, hop, hargs, hty, hel, hty2, if_pos hsz, h1, Option.map_some, putP_st, ← h2]
        · exact Sim.fail
      · exact Sim.fail
    · exact Sim.fail
  · rename_i args argTypes hop
    split
    · rename_i x t hargs hty
      split
      · rename_i e ei hel
        split
        · rename_i hsz
          refine Sim.bind (clearV_sim _ _ _) fun p hp => Sim.pure ?_
          obtain ⟨⟨r, c⟩, h1, h2⟩ := Option.map_eq_some_iff.1 hp
          simp only [step, hop, hargs, hty, hel, if_pos hsz, h1, Option.map_some, putP_st, ← h2]
        · exact Sim.fail
      · exact Sim.fail
    · exact Sim.fail
  · rename_i g args argTypes d hop hdst
    split
    · rename_i f cap hg
      split
      · exact Sim.fail
      · rename_i hft
        refine Sim.bind (callV_sim (X := X) d f _) fun p hp => Sim.pure ?_
        simp only [step, hop, hdst, hg, if_neg hft, hp, Option.map_some, putP_st]
    · exact Sim.fail
  · rename_i h1 h2 h3 h4 h5 h6 h7 h8 h9 h10
    refine quietCase ?_
    unfold step
    split <;> first | rfl | (exfalso; simp_all; done) | skip
    all_goals first | exact (h1 _ _ (by assumption)).elim | exact (h2 _ _ (by assumption)).elim | exact (h3 _ _ (by assumption) (by assumption)).elim | exact (h4 _ _ (by assumption) (by assumption)).elim | exact (h5 _ _ _ (by assumption) (by assumption)).elim | exact (h6 _ _ _ (by assumption) (by assumption)).elim | exact (h7 _ _ _ _ (by assumption) (by assumption)).elim | exact (h8 _ _ _ _ (by assumption) (by assumption)).elim | exact (h9 _ _ _ (by assumption) (by assumption)).elim | exact (h10 _ _ _ _ (by assumption) (by assumption)).elim

end
end Go.PR
