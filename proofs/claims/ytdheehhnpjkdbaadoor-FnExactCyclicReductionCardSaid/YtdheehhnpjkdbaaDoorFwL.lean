/- One operation of the evaluator is the model's. -/
import Derived.Test.YtdheehhnpjkdbaaDoorFwK
set_option linter.unusedVariables false
set_option linter.unusedSimpArgs false
namespace Go.PR
open Go

section
variable {P : Program} {X : Ctx} {G : Nat → Option D} {F : Nat → Prop} {w0 w w' : World} {M0 : Entry} {M M' Mc : Nat → Prop} {mu mu' muc : Nat → Option Loc} {tmps : Array Value} {a : Act} {st : St}

theorem mapO_all {α β : Type} {f : α → Option β} : ∀ {l : List α} {l' : List β}, mapO f l = some l' → ∀ (i : Nat) (x : α), l[i]? = some x → ∃ y, l'[i]? = some y ∧ f x = some y
  | [], l', h, i, x, e => by simp at e
  | x' :: l, l', h, i, x, e => by
    simp only [mapO] at h
    split at h
    · rename_i b bs h1 h2
      cases h
      cases i with
      | zero => simp at e; subst e; exact ⟨b, by simp, h1⟩
      | succ i => simpa using mapO_all h2 i x (by simpa using e)
    · cases h

theorem isCell_one : ∀ {ds : List D} {vs : List Value}, ds.all D.isCell = true → RepL w M mu ds vs → ∀ u ∈ vs, u.oneCell' = true
  | [], [], _, _ => by simp
  | [], _ :: _, _, h => by simp only [RepL] at h
  | _ :: _, [], _, h => by simp only [RepL] at h
  | d :: ds, v :: vs, hc, h => by
    simp only [List.all_cons, Bool.and_eq_true] at hc
    simp only [RepL] at h
    intro u hu
    rcases List.mem_cons.1 hu with rfl | hu
    · have h0 := h.1
      have hcell : ∀ (l : Loc) (o : Nat), l.cell o u → u.oneCell' = true := fun l o hl => by
        cases l with
        | nowhere => cases hl
        | at_ b base size => simp only [Loc.cell] at hl; rw [hl]; rfl
      have hsl : ∀ (l : Loc) (o n : Nat), l.slice o n u → u.oneCell' = true := fun l o n hl => by
        cases l with
        | nowhere => obtain ⟨_, A, rfl⟩ := hl; rfl
        | at_ b base size => rcases hl with ⟨_, _, A, rfl⟩ | ⟨c, rfl, _⟩ <;> rfl
      cases d <;> simp [D.isCell] at hc <;> simp only [Rep] at h0
      case nil => obtain ⟨A, rfl⟩ := h0; rfl
      case bool => subst h0; rfl
      case int => subst h0; rfl
      case str => subst h0; rfl
      case fn => obtain ⟨cv, rfl, _⟩ := h0; rfl
      case immI => obtain ⟨A, c, rfl, _⟩ := h0; rfl
      case immB => obtain ⟨A, c, rfl, _⟩ := h0; rfl
      case imm2 => obtain ⟨cv, _, A, c, rfl, _⟩ := h0; rfl
      case immG => obtain ⟨cv, _, _, A, c, rfl, _⟩ := h0; rfl
      case pim => obtain ⟨ad, cv, rfl, _⟩ := h0; rfl
      case ptr => obtain ⟨l, _, hl⟩ := h0; exact hcell l _ hl
      case pel => obtain ⟨l, _, hl⟩ := h0; exact hcell l _ hl
      case rsl => obtain ⟨l, _, hl⟩ := h0; exact hsl l _ _ hl
    · exact isCell_one hc.2 h.2 u hu

theorem ren_wr (r : Row) (f : Nat → Option Nat) : (r.ren f).wr = r.wr := rfl

theorem callD_sound {cl : FuncId → List D → List Row → Option Ret} (hcl : ∀ f args prows r, cl f args prows = some r → Sound P X f args prows r) (h : SR X.glob F w0 M0 w M mu tmps st) {dst : Nat} {f : FuncId} {args : List D} {vs : List Value} (hr : RepL w M mu args vs) {d : D} {st' : St}
    (hd : callD X cl dst f args st = some (d, st')) : Calls P f vs.toArray w fun e w' => ∃ v M' mu', e = .returned v ∧ SR X.glob F w0 M0 w' M' mu' tmps st' ∧ Rep w' M' mu' d v := by
  unfold callD at hd
  split at hd
  · -- the rows themselves are handed over
    dsimp only at hd
    generalize reach st.rows args = ids at hd
    split at hd
    case h_2 => cases hd
    rename_i rows hrows
    split at hd
    case isFalse => cases hd
    rename_i hcond
    simp only [Bool.and_eq_true, decide_eq_true_eq] at hcond
    obtain ⟨⟨hwr, hlen⟩, hnd⟩ := hcond
    split at hd
    case h_2 => cases hd
    rename_i r hcall
    split at hd
    case isFalse => cases hd
    rename_i hcond2
    simp only [Bool.and_eq_true, decide_eq_true_eq] at hcond2
    obtain ⟨⟨hpl, hol⟩, hdis⟩ := hcond2
    cases hd
    obtain ⟨hrl, hrg⟩ := mapO_get hrows
    have hra := mapO_all hrows
    let muc : Nat → Option Loc := fun i => if PB ≤ i then (match ids[i - PB]? with | some q => mu q | none => none) else none
    have hmuc : ∀ (j i : Nat), ids[j]? = some i → muc (PB + j) = mu i := fun j i hi => by
      simp only [muc, if_pos (Nat.le_add_right PB j), Nat.add_sub_cancel_left, hi]
    clear_value muc
    have hin : ∀ q i, inF ids q = some i → muc i = mu q := fun q i e => by
      unfold inF at e
      obtain ⟨j, hj, e'⟩ := Option.map_eq_some_iff.1 e
      rw [← e']
      exact hmuc j q (idx_spec hj)
    have hrow : ∀ (j i : Nat), ids[j]? = some i → ∃ row, rows[j]? = some row ∧ st.rows i = some row ∧ row.wr = true := fun j i hi => by
      obtain ⟨row, h1, h2⟩ := hra j i hi
      exact ⟨row, h1, h2, (List.all_eq_true.1 hwr) row (List.mem_of_getElem? h1)⟩
    have hlenr : (rows.map (·.ren (inF ids))).length = ids.length := by simp [hrl]
    have hentry : SR X.glob (Fset w muc ids.length) w ⟨M, muc⟩ w M muc vs.toArray ⟨D.renL (inF ids) args, rowsIn (rows.map (·.ren (inF ids)))⟩ := by
      have rowOf : ∀ i ri, rowsIn (rows.map (·.ren (inF ids))) i = some ri → ∃ j q row, i = PB + j ∧ ids[j]? = some q ∧ st.rows q = some row ∧ row.wr = true ∧ ri = row.ren (inF ids) ∧ j < ids.length := by
        intro i ri hi
        unfold rowsIn at hi
        split at hi
        · rename_i hPB
          rw [List.getElem?_map] at hi
          obtain ⟨row, h1, h2⟩ := Option.map_eq_some_iff.1 hi
          obtain ⟨q, h3, h4⟩ := hrg _ row h1
          refine ⟨i - PB, q, row, (add_sub_back hPB).symm, h3, h4, (List.all_eq_true.1 hwr) row (List.mem_of_getElem? h1), h2.symm, ?_⟩
          rcases Nat.lt_or_ge (i - PB) ids.length with h | h
          · exact h
          · rw [List.getElem?_eq_none h] at h3; cases h3
        · cases hi
      refine { env := by simpa using RepL.ren hin args hr, rows := ?_, apart := ?_, keeps := Keeps.refl _ _, m1 := fun _ _ h => h, m2 := fun _ h _ => h, mlt := h.mlt, fr := fun _ h => .inl h, glob := h.glob, pin := fun _ _ => rfl }
      · intro i ri hi
        obtain ⟨j, q, row, rfl, h1, h2, h3, rfl, h4⟩ := rowOf i ri hi
        refine ((h.rows q row h2).ren (id' := PB + j) hin (hmuc j q h1)).widen fun b hb hw => .inr ⟨j, h4, hb⟩
      · intro i j ri rj b hij hi hj mi mj bi bj
        obtain ⟨j1, q1, row1, rfl, h1, h2, h3, rfl, h4⟩ := rowOf i ri hi
        obtain ⟨j2, q2, row2, rfl, g1, g2, g3, rfl, g4⟩ := rowOf j rj hj
        rw [hmuc j1 q1 h1] at bi
        rw [hmuc j2 q2 g1] at bj
        refine h.apart q1 q2 row1 row2 b (fun e => ?_) h2 g2 h3 g3 bi bj
        have e1 := nodup_idx hnd h1
        have e2 := nodup_idx hnd g1
        rw [e, e2] at e1
        cases e1
        exact hij rfl
    have hsound := hcl f _ _ r hcall w M muc vs (by rw [hlenr]; exact hentry)
    rw [hlenr] at hsound
    refine hsound.mono ?_
    rintro e w' ⟨v, M', mu', rfl, hc⟩
    obtain ⟨M'', mu'', k1, k2, _⟩ := h.back ids dst r hnd (fun j i hi => by obtain ⟨row, _, h2, h3⟩ := hrow j i hi; exact ⟨row, h2, h3⟩) hlen (fun _ h => h) hmuc hc hpl hol
      (fun i hi hm => by have := (List.all_eq_true.1 hdis) i hi; simp at this; exact this hm) (.inl fun _ h => h) (gone ids r) (fun j i hi hp => by
        unfold gone
        rw [List.mem_filterMap]
        refine ⟨(i, j), by rw [List.mem_iff_getElem?]; exact ⟨j, by simp [List.getElem?_zipIdx, hi]⟩, ?_⟩
        cases e : r.passed[j]? with
        | none => simp [e]
        | some y => cases y with
          | none => simp [e]
          | some z => rw [e] at hp; cases hp)
    exact ⟨v, M'', mu'', rfl, k1, k2⟩
  · -- only what they hold
    dsimp only at hd
    generalize reach st.rows args = Z at hd
    split at hd
    case h_2 => cases hd
    rename_i args' hargs
    split at hd
    case h_2 => cases hd
    rename_i r hcall
    split at hd
    case isFalse => cases hd
    rename_i hcond
    simp only [Bool.and_eq_true, decide_eq_true_eq, List.isEmpty_iff] at hcond
    obtain ⟨hpn, hol⟩ := hcond
    cases hd
    let Mc := Less M mu st.rows Z
    have hargs' : RepL w Mc mu0 args' vs := mapO_rep (fun d d' v e hv => reify_rep h Z mu0 _ d d' v e hv) hargs hr
    have hentry : SR X.glob (Fset w mu0 0) w ⟨Mc, mu0⟩ w Mc mu0 vs.toArray ⟨args', rowsIn []⟩ := by
      have none_ : ∀ i, rowsIn [] i = none := fun i => by unfold rowsIn; split <;> simp
      exact { env := by simpa using hargs', rows := (fun i ri hi => absurd ((none_ i).symm.trans hi) (by simp)), apart := (fun i j ri rj b _ hi => absurd ((none_ i).symm.trans hi) (by simp)), keeps := Keeps.refl _ _, m1 := fun _ _ h => h, m2 := fun _ h _ => h, mlt := fun b hb => h.mlt b hb.1, fr := fun _ h => .inl h, glob := fun g d hg => Rep.keeps (Keeps.refl _ _) (fun _ _ hb => hb.1) (fun _ _ h => h) d (h.glob g d hg), pin := fun _ _ => rfl }
    have hsound := hcl f _ _ r hcall w Mc mu0 vs hentry
    refine hsound.mono ?_
    rintro e w' ⟨v, M', mu', rfl, hc⟩
    have nd0 : nodupB [] = true := rfl
    split
    · -- nothing is frozen
      rename_i hz
      have hup : (∀ b, M b → Mc b) ∨ (([] : List Nat) = [] ∧ r.res.noImm = true ∧ ∀ x ∈ r.out, x.wr = true ∧ x.c.noImm = true) := by
        simp only [Bool.or_eq_true, List.isEmpty_iff, Bool.and_eq_true, List.all_eq_true] at hz
        rcases hz with rfl | ⟨h1, h2⟩
        · left; intro b hb; show Less M mu st.rows [] b; rw [less_nil rfl]; exact hb
        · exact .inr ⟨rfl, h1, fun x hx => by have := h2 x hx; simpa using this⟩
      obtain ⟨M'', mu'', k1, k2, _⟩ := h.back [] dst r nd0 (fun j i hi => by simp at hi) (by simp) (fun b hb => hb.1) (fun j i hi => by simp at hi) hc (by simp [hpn]) hol (fun i _ => by simp) hup [] (fun j i hi => by simp at hi)
      exact ⟨v, M'', mu'', rfl, by simpa using k1, k2⟩
    · have hf := h.freeze Z
      obtain ⟨M'', mu'', k1, k2, _⟩ := hf.back [] dst r nd0 (fun j i hi => by simp at hi) (by simp) (Mc := Mc) (fun b hb => hb) (fun j i hi => by simp at hi) hc (by simp [hpn]) hol (fun i _ => by simp) (.inl fun _ h => h) [] (fun j i hi => by simp at hi)
      exact ⟨v, M'', mu'', rfl, by simpa using k1, k2⟩

theorem SR.setDst (h : SR X.glob F w0 M0 w M mu a.tmps st) {d : D} {v : Value} (hv : Rep w M mu d v) (dst : Option Tmp) : SR X.glob F w0 M0 w M mu (a.put dst v).tmps (st.setD dst d) := by
  cases dst with
  | none => exact h
  | some t => exact h.put hv t

theorem put_defers (a : Act) (dst : Option Tmp) (v : Value) : (a.put dst v).defers = a.defers := by cases dst <;> rfl

def After (X : Ctx) (F : Nat → Prop) (w0 : World) (M0 : Entry) (df : List Deferred) (st : St) (a : Act) (w : World) : Prop := a.defers = df ∧ ∃ M mu, SR X.glob F w0 M0 w M mu a.tmps st

/-- One operation. -/
theorem step_sound (hX : XOK P X) {cl : FuncId → List D → List Row → Option Ret} (hcl : ∀ f args prows r, cl f args prows = some r → Sound P X f args prows r) (h : SR X.glob F w0 M0 w M mu a.tmps st) {o : Oper} {st' : St} (hs : step X cl o st = some st') {Q : Exit → Act → World → Prop} :
    o.wp P a w (After X F w0 M0 a.defers st') Q := by
  have hquiet : (quiet X st o).map (fun d => st.setD o.dst d) = some st' → o.wp P a w (After X F w0 M0 a.defers st') Q := by
    intro hs
    obtain ⟨d, hd, rfl⟩ := Option.map_eq_some_iff.1 hs
    obtain ⟨v, h1, h2⟩ := quiet_sound hX h hd
    unfold Oper.wp
    rw [h1]
    exact ⟨put_defers _ _ _, M, mu, h.setDst h2 _⟩
  unfold step at hs
  split at hs
  · -- assign
    rename_i x t hop hdst
    split at hs
    case isFalse => cases hs
    cases hs
    unfold Oper.wp
    have hrun : (execOp a.eval o).run P w = .ok (.value (a.eval x)) w := by simp [execOp, hop]
    rw [hrun]
    refine ⟨put_defers _ _ _, ?_⟩
    have h1 := h.put (ev_rep h x) t
    rw [hdst]
    rename_i ht
    have hp : ¬ Pinned t := fun hh => absurd (Nat.lt_of_lt_of_le ht (by decide : 1000 ≤ PB)) (Nat.not_lt.2 hh.1)
    obtain ⟨mu', h2⟩ := h1.bindAt (nkOf X o.type) t t hp
    exact ⟨M, mu', h2⟩
  · -- alloc
    rename_i t d hop hdst
    obtain ⟨i, ht, rfl⟩ := Option.map_eq_some_iff.1 hs
    obtain ⟨ti, z, i1, i2, i3, i4, i5, i6⟩ := (hX.tt t i ht).info
    have hrun : (execOp a.eval o).run P w = .ok (.value (.pointer (some ⟨w.heap.size, 0, none⟩))) (w.alloc (.cells z.cells t)) := by
      simp [execOp, hop, Instr.alloc, zeroValue, typeInfo, i1, i4, newVar, newRow]
    unfold Oper.wp
    rw [hrun]
    refine ⟨put_defers _ _ _, ?_⟩
    obtain ⟨M', mu', e1, h2⟩ := h.box (w' := w.alloc (.cells z.cells t)) (nid d) (nid_pin d) (cells := i.zero) (cv := z.cells.toList) (zerosOK_rep i5) (zerosOK_one i5) (T := t) (Keeps.alloc _ w _) (by simpa using alloc_block w (.cells z.cells t))
    rw [hdst]
    exact ⟨M', mu', h2.put (d := .ptr (nid d) 0) (by simp only [Rep]; exact ⟨_, e1, rfl⟩) d⟩
  · -- box
    rename_i t x d hop hdst
    split at hs
    case h_2 => cases hs
    rename_i i ht
    split at hs
    case isFalse => cases hs
    rename_i hcond
    simp only [Bool.and_eq_true, beq_iff_eq] at hcond
    obtain ⟨⟨hk1, hk2⟩, hk3⟩ := hcond
    cases hs
    have hx := ev_rep h x
    have hcr := cells_rep hx hk1
    have hone := isCell_one hk3 hcr
    have hrun : (execOp a.eval o).run P w = .ok (.value (.pointer (some ⟨w.heap.size, 0, none⟩))) (w.alloc (.cells (a.eval x).cells t)) := by
      simp [execOp, hop, Instr.box, newVar, newRow]
    unfold Oper.wp
    rw [hrun]
    refine ⟨put_defers _ _ _, ?_⟩
    obtain ⟨M', mu', e1, h2⟩ := h.box (w' := w.alloc (.cells (a.eval x).cells t)) (nid d) (nid_pin d) (cells := (ev X st x).cells) (cv := (a.eval x).cells.toList) hcr hone (T := t) (Keeps.alloc _ w _) (by simpa using alloc_block w (.cells (a.eval x).cells t))
    rw [hdst]
    exact ⟨M', mu', h2.put (d := .ptr (nid d) 0) (by simp only [Rep]; exact ⟨_, e1, rfl⟩) d⟩
  · -- store
    rename_i t ad x hop hdst
    split at hs
    case h_2 => cases hs
    rename_i i ht
    have hA := ev_rep h ad
    have hV := ev_rep h x
    generalize ev X st ad = da at *
    generalize ev X st x = dv at *
    have fin : ∀ {w' : World} {M' : Nat → Prop} {mu' : Nat → Option Loc}, (Instr.storeAt t (a.eval ad) (a.eval x)).run P w = .ok () w' → SR X.glob F w0 M0 w' M' mu' a.tmps st' → o.wp P a w (After X F w0 M0 a.defers st') Q := by
      intro w' M' mu' h1 h2
      have hrun : (execOp a.eval o).run P w = .ok .skip w' := by simp [execOp, hop, h1]
      unfold Oper.wp
      rw [hrun, Oper.upon_skip, hdst]
      exact ⟨rfl, M', mu', h2⟩
    unfold storeD at hs
    split at hs
    · rename_i r off
      split at hs
      case isFalse => cases hs
      rename_i hcond
      simp only [Bool.and_eq_true, beq_iff_eq] at hcond
      obtain ⟨⟨hk1, hk2⟩, hk3⟩ := hcond
      have hone := isCell_one hk3 (cells_rep hV hk1)
      obtain ⟨w', mu', h1, h2⟩ := SR.storeVar hX h ht hA hV hk1 hk2 hone hs
      exact fin h1 h2
    · rename_i r j
      split at hs
      case isFalse => cases hs
      rename_i hcond
      split at hs
      case h_2 => cases hs
      rename_i d' s hset
      split at hs
      case h_2 => cases hs
      rename_i c hrow
      split at hs
      case isTrue => cases hs
      obtain ⟨c', hc', rfl⟩ := Option.map_eq_some_iff.1 hs
      obtain ⟨M', m1, g1, g2⟩ := h.settle hset hV
      have hA' := Rep.keeps (mu' := mu) (Keeps.refl _ w) (fun b _ hb => m1 b hb) (fun _ _ h => h) _ hA
      obtain ⟨w', h1, h2⟩ := SR.storeEl hX g1 ht hcond.1 hA' (g2 mu) hrow hc'
      exact fin h1 h2
    · cases hs
  · -- a literal
    rename_i t n parts d hop hdst
    split at hs
    case h_2 => cases hs
    rename_i e ei hel
    split at hs
    case isFalse => cases hs
    rename_i hsz
    split at hs
    case h_2 => cases hs
    rename_i ds hds
    split at hs
    case isFalse => cases hs
    rename_i hn
    split at hs
    case h_2 => cases hs
    rename_i c0 hc0
    obtain ⟨⟨c, s⟩, hb, rfl⟩ := Option.map_eq_some_iff.1 hs
    obtain ⟨hu, he⟩ := elemOf_spec hX hel
    obtain ⟨hdsv, hidx⟩ := parts01_run parts.toList 0 ds hds
    obtain ⟨z1, z2, z3⟩ := emptyC_rep (w := w) (M := M) (mu := mu) hc0
    have hreps : RepL w M mu ds (parts.toList.map fun p => a.eval p.2) := by
      rw [hdsv]
      have : ∀ (ps : List (Nat × Operand)), RepL w M mu (ps.map fun p => ev X st p.2) (ps.map fun p => a.eval p.2) := by
        intro ps
        induction ps with
        | nil => simp only [List.map, RepL]
        | cons p ps ih => simp only [List.map, RepL]; exact ⟨ev_rep h p.2, ih⟩
      exact this _
    obtain ⟨M1, m1, g1, g2, g3, g4⟩ := SR.buildC ds h hb hreps z1 z3
    simp only [List.nil_append] at g2
    have hvl : (parts.toList.map fun p => a.eval p.2).length = n := by rw [← hreps.length]; exact hn
    have hrun : (execOp a.eval o).run P w = .ok (.value (.slice (some ⟨w.heap.size, 0, none⟩) n n)) (w.alloc (.cells (parts.toList.map fun p => a.eval p.2).toArray e)) := by
      have := buildSlice_run (P := P) (w := w) hX hu he hsz.1 g4 (by rw [hvl]; exact hsz.2) (parts.map fun (i, x) => (i, a.eval x)) (by
        have hz := zip_parts a.eval parts.toList 0 hidx
        rw [← hz]
        simp)
      rw [hvl] at this
      simp [execOp, hop, this]
    unfold Oper.wp
    rw [hrun]
    refine ⟨put_defers _ _ _, ?_⟩
    obtain ⟨M', mu', e1, h2, _⟩ := g1.alloc (w' := w.alloc (.cells (parts.toList.map fun p => a.eval p.2).toArray e)) (nid d) (nid_pin d) c (parts.toList.map fun p => a.eval p.2).toArray e _ (Keeps.alloc _ w _) (alloc_block w _) (fun mu' _ => g2.anyMu g3) (by simp) (fun j hj => by simp)
    rw [hdst]
    refine ⟨M', mu', h2.put (d := .rsl (nid d) 0 n) ?_ d⟩
    simp only [Rep]
    exact ⟨_, e1, .inr ⟨n, rfl, Nat.le_refl _, by simpa using hvl.symm⟩⟩
  · -- make
    rename_i t l c d hop hdst
    split at hs
    case h_2 => cases hs
    rename_i e ei k1 n k2 m hel hl hc
    split at hs
    case isFalse => cases hs
    rename_i hcond
    obtain ⟨hsz, hby, h0, hnm, hml⟩ := hcond
    obtain ⟨cc, hz, rfl⟩ := Option.map_eq_some_iff.1 hs
    obtain ⟨hu, he⟩ := elemOf_spec hX hel
    obtain ⟨ti, z, i1, i2, i3, i4, i5, i6⟩ := (hX.tt e ei he).info
    obtain ⟨z0, zc, zr, zv, zl, z1⟩ := zeroC_rep (w := w) (M := M) (mu := mu) i5 hz
    have hlv := ev_rep h l
    have hcv := ev_rep h c
    rw [hl] at hlv
    rw [hc] at hcv
    simp only [Rep] at hlv hcv
    have hml' : m ≤ 1099511627776 := hml
    have hb1 : (ti.bytes : Int) ≤ 64 := by rw [i3]; omega
    have hb2 : (ti.bytes : Int) * m ≤ 281474976710656 := by
      have : (ti.bytes : Int) * m ≤ 64 * 1099511627776 := Int.mul_le_mul hb1 hml' (by omega) (by omega)
      omega
    have hr := run_make (P := P) w t e ti z hu i1 i4 k1 k2 n m h0 hnm hb2 (by omega)
    have hsz1 : ti.size = 1 := i2.trans hsz
    rw [hsz1, Nat.mul_one, zc] at hr
    have hrun : (execOp a.eval o).run P w = .ok (.value (.slice (some ⟨w.heap.size, 0, none⟩) n.toNat m.toNat)) (w.alloc (.cells (madeCells #[z0] m.toNat) e)) := by
      simp [execOp, hop, hlv, hcv, hr]
    unfold Oper.wp
    rw [hrun]
    refine ⟨put_defers _ _ _, ?_⟩
    obtain ⟨M', mu', e1, h2, _⟩ := h.alloc (w' := w.alloc (.cells (madeCells #[z0] m.toNat) e)) (nid d) (nid_pin d) cc (madeCells #[z0] m.toNat) e (List.replicate n.toNat z0) (Keeps.alloc _ w _) (alloc_block w _) (fun mu' _ => zr.anyMu zv) (by simp [size_madeCells]; omega) (fun j hj => by
      have hj' : j < n.toNat := by rwa [List.length_replicate] at hj
      rw [madeCells_get (by omega), List.getElem?_replicate, if_pos hj'])
    rw [hdst]
    refine ⟨M', mu', h2.put (d := .rsl (nid d) 0 n.toNat) ?_ d⟩
    simp only [Rep]
    exact ⟨_, e1, .inr ⟨m.toNat, rfl, by omega, by simp [size_madeCells]⟩⟩
  · -- append
    rename_i args argTypes d hop hdst
    split at hs
    case h_2 => cases hs
    rename_i x y t ty hargs hty
    split at hs
    case h_3 => cases hs
    case h_2 =>
      rename_i e ei kn _ _ _ hel hty2
      obtain ⟨⟨r, s⟩, ha, rfl⟩ := Option.map_eq_some_iff.1 hs
      obtain ⟨hu, he⟩ := elemOf_spec hX hel
      have hk := (hX.tt _ _ hty2).kind
      obtain rfl : args = #[x, y] := by cases args; simp_all
      obtain rfl : argTypes = #[t, ty] := by cases argTypes; simp_all
      obtain ⟨v, w', M', mu', h1, h2, h3⟩ := appendZ_sound (t' := o.type) hX h hu he hk (nid_pin d) (ev_rep h x) (ev_rep h y) ha
      have hrun : (execOp a.eval o).run P w = .ok (.value v) w' := by simp [execOp, hop, resolve, invoke, builtin, h1]
      unfold Oper.wp
      rw [hrun]
      refine ⟨put_defers _ _ _, ?_⟩
      rw [hdst]
      exact ⟨M', mu', h2.put h3 d⟩
    rename_i e ei e' _ _ _ hel hty2
    obtain ⟨⟨r, s⟩, ha, rfl⟩ := Option.map_eq_some_iff.1 hs
    obtain ⟨hu, he⟩ := elemOf_spec hX hel
    have hk := (hX.tt _ _ hty2).kind
    obtain rfl : args = #[x, y] := by cases args; simp_all
    obtain rfl : argTypes = #[t, ty] := by cases argTypes; simp_all
    obtain ⟨v, w', M', mu', h1, h2, h3, _⟩ := append_sound (t' := o.type) hX h hu he hk (nid_pin d) (ev_rep h x) (ev_rep h y) ha
    have hrun : (execOp a.eval o).run P w = .ok (.value v) w' := by simp [execOp, hop, resolve, invoke, builtin, h1]
    unfold Oper.wp
    rw [hrun]
    refine ⟨put_defers _ _ _, ?_⟩
    rw [hdst]
    exact ⟨M', mu', h2.put h3 d⟩
  · -- copy
    rename_i args argTypes hop
    split at hs
    case h_2 => cases hs
    rename_i x y t ty hargs hty
    split at hs
    case h_2 => cases hs
    rename_i e ei e' _ _ _ hel hty2
    split at hs
    case isFalse => cases hs
    rename_i hsz
    obtain ⟨⟨r, c⟩, ha, rfl⟩ := Option.map_eq_some_iff.1 hs
    obtain ⟨hu, he⟩ := elemOf_spec hX hel
    have hk := (hX.tt _ _ hty2).kind
    obtain rfl : args = #[x, y] := by cases args; simp_all
    obtain rfl : argTypes = #[t, ty] := by cases argTypes; simp_all
    obtain ⟨v, w', h1, h2, h3⟩ := copy_sound (t' := o.type) hX h hu he hsz hk (ev_rep h x) (ev_rep h y) ha
    have hrun : (execOp a.eval o).run P w = .ok (.value v) w' := by simp [execOp, hop, resolve, invoke, builtin, h1]
    unfold Oper.wp
    rw [hrun]
    exact ⟨put_defers _ _ _, M, mu, h2.setDst h3 _⟩
  · -- clear
    rename_i args argTypes hop
    split at hs
    case h_2 => cases hs
    rename_i x t hargs hty
    split at hs
    case h_2 => cases hs
    rename_i e ei hel
    split at hs
    case isFalse => cases hs
    rename_i hsz
    obtain ⟨⟨r, c⟩, ha, rfl⟩ := Option.map_eq_some_iff.1 hs
    obtain ⟨hu, he⟩ := elemOf_spec hX hel
    obtain rfl : args = #[x] := by cases args; simp_all
    obtain rfl : argTypes = #[t] := by cases argTypes; simp_all
    obtain ⟨v, w', h1, h2, h3⟩ := clear_sound (t' := o.type) hX h hu he hsz (ev_rep h x) ha
    have hrun : (execOp a.eval o).run P w = .ok (.value v) w' := by simp [execOp, hop, resolve, invoke, builtin, h1]
    unfold Oper.wp
    rw [hrun]
    exact ⟨put_defers _ _ _, M, mu, h2.setDst h3 _⟩
  · -- a call
    rename_i g args argTypes d hop hdst
    split at hs
    case h_2 => cases hs
    rename_i f cap hg
    split at hs
    case isTrue => cases hs
    rename_i hft
    obtain ⟨⟨r, s⟩, hc, rfl⟩ := Option.map_eq_some_iff.1 hs
    have hgr := ev_rep h g
    rw [hg] at hgr
    simp only [Rep] at hgr
    obtain ⟨cv, hgv, hcap⟩ := hgr
    obtain ⟨fn, hfn⟩ : ∃ fn, X.ft f = some fn := by cases e : X.ft f with | none => simp [e] at hft | some fn => exact ⟨fn, rfl⟩
    obtain ⟨k1, k2, k3⟩ := hX.ft f fn hfn
    have hcall := callD_sound hcl h (RepL.append (ev_repL h args.toList) hcap) hc
    have hrun : (execOp a.eval o).run P w = .ok (.enter f (args.toList.map a.eval ++ cv).toArray) w := by
      have k2' : ¬ fn.name = "runtime.NumGoroutine" := by simpa using k2
      have k3' : ¬ fn.body = none := by intro e; rw [e] at k3; cases k3
      simp [execOp, hop, resolve, hgv, Deferred.ofValue, invoke, callFunc, k1, k2', k3']
    unfold Oper.wp
    rw [hrun, Oper.upon_enter]
    refine hcall.mono ?_
    rintro e w' ⟨v, M', mu', rfl, h2, h3⟩
    refine ⟨put_defers _ _ _, ?_⟩
    rw [hdst]
    exact ⟨M', mu', h2.put h3 d⟩
  · exact hquiet hs

end
end Go.PR
