/- Slicing, building, and all reading operations together. -/
import Derived.Test.YtdheehhnpjkdbaaDoorFwE
import Derived.Lib.SliceRun
set_option linter.unusedVariables false
set_option linter.unusedSimpArgs false
namespace Go.PR
open Go

section
variable {P : Program} {X : Ctx} {F : Nat → Prop} {w0 w : World} {M0 : Entry} {M : Nat → Prop} {mu : Nat → Option Loc} {a : Act} {st : St}

theorem bnd_run {lo : Option Operand} (h : SR X.glob F w0 M0 w M mu a.tmps st) {dflt n : Nat} (hb : bnd (lo.map (ev X st)) dflt = some n) :
    (lo = none ∧ n = dflt) ∨ ∃ k, lo.map a.eval = some (.int k n) := by
  cases lo with
  | none => simp [bnd] at hb; exact .inl ⟨rfl, hb.symm⟩
  | some x =>
    have hr := ev_rep h x
    simp only [Option.map_some] at hb ⊢
    generalize ev X st x = d at *
    cases d <;> simp [bnd] at hb
    rename_i k j
    obtain ⟨h0, rfl⟩ := hb
    simp only [Rep] at hr
    exact .inr ⟨k, by rw [hr]; congr; omega⟩

theorem sliceBounds_run {lo hi : Option Operand} (h : SR X.glob F w0 M0 w M mu a.tmps st) {n c l hh : Nat} (h1 : bnd (lo.map (ev X st)) 0 = some l) (h2 : bnd (hi.map (ev X st)) n = some hh) (hl : l ≤ hh) (hc : hh ≤ c) :
    (Instr.sliceBounds true n c (lo.map a.eval) (hi.map a.eval) none).run P w = .ok (l, hh, c) w := by
  have e1 : ∀ k, (Instr.sliceBound (.int k (hh : Int)) c .sliceAcap).run P w = .ok hh w := fun k => by
    have : (0 : Int) ≤ hh ∧ (hh : Int) ≤ c := by omega
    simp [Instr.sliceBound, asIntOf]; omega
  have e2 : ∀ k, (Instr.sliceBound (.int k (l : Int)) hh .sliceB).run P w = .ok l w := fun k => by
    simp [Instr.sliceBound, asIntOf]; omega
  rcases bnd_run h h1 with ⟨rfl, rfl⟩ | ⟨k1, g1⟩ <;> rcases bnd_run h h2 with ⟨rfl, rfl⟩ | ⟨k2, g2⟩
  · simp [Instr.sliceBounds]
  · simp [Instr.sliceBounds, g2, e1]
  · simp [Instr.sliceBounds, g1, e2]
  · simp [Instr.sliceBounds, g1, g2, e1, e2]

theorem subL_eq {α : Type} (xs : List α) (off n : Nat) (h : off + n ≤ xs.length) : subL xs off n = (xs.drop off).take n := by
  unfold subL
  split
  · rename_i hh
    obtain ⟨rfl, rfl⟩ := hh
    simp
  · rfl

theorem SlV.sub {cv : List Value} {A : Option Addr} {n c : Nat} (hn : n = cv.length) (hle : cv.length ≤ c) (hh : Held w M A cv) {l h : Nat} (hl : l ≤ h) (hhn : h ≤ n) :
    SlV w M ((cv.drop l).take (h - l)) (.slice (if c = l then A else A.map (·.add l)) (h - l) (c - l)) := by
  have hlen : ((cv.drop l).take (h - l)).length = h - l := by simp; omega
  refine ⟨_, _, by rw [hlen], by omega, ?_⟩
  by_cases h0 : h - l = 0
  · exact .inl (by rw [h0]; simp)
  · rcases hh with rfl | ⟨ad, rfl, hn', hc⟩
    · exact .inl (by simp)
    · have hcl : c ≠ l := by omega
      rw [if_neg hcl]
      refine .inr ⟨ad.add l, rfl, by rwa [block_add], fun j hj => ?_⟩
      rw [hlen] at hj
      have h1 := hc (l + j) (by omega)
      rw [List.getElem?_take, if_pos hj, List.getElem?_drop, ← h1]
      congr 1
      simp only [Addr.add]
      split <;> split <;> simp_all <;> try omega

theorem intsV_sub (k : IntKind) (xs : List Int) (l n : Nat) : intsV k ((xs.drop l).take n) = ((intsV k xs).drop l).take n := by simp [intsV, List.map_take, List.map_drop]
theorem boolsV_sub (xs : List Bool) (l n : Nat) : boolsV ((xs.drop l).take n) = ((boolsV xs).drop l).take n := by simp [boolsV, List.map_take, List.map_drop]

theorem All2.take {α β : Type} {R : α → β → Prop} : ∀ (n : Nat) {as : List α} {bs : List β}, All2 R as bs → All2 R (as.take n) (bs.take n)
  | 0, _, _, _ => by simp [All2]
  | n + 1, [], [], _ => by simp [All2]
  | n + 1, _ :: _, _ :: _, h => ⟨h.1, All2.take n h.2⟩
theorem All2.drop {α β : Type} {R : α → β → Prop} : ∀ (n : Nat) {as : List α} {bs : List β}, All2 R as bs → All2 R (as.drop n) (bs.drop n)
  | 0, _, _, h => by simpa using h
  | n + 1, [], [], _ => by simp [All2]
  | n + 1, _ :: _, _ :: _, h => All2.drop n h.2

/-- A part of a content, as an immutable slice, if its cells lie there. -/
theorem Cont.imm_rep {c : Cont} {cv : List Value} (hc : ContRep w M mu0 c cv) {l n : Nat} {d : D} (hle : l + n ≤ c.len) (hd : c.imm l n = some d) {v : Value} (hs : SlV w M ((cv.drop l).take n) v) : Rep w M mu d v := by
  cases c with
  | ints k xs =>
    simp only [Cont.imm] at hd; cases hd
    simp only [ContRep] at hc; subst hc
    simp only [Rep, subL_eq _ _ _ hle, intsV_sub]; exact hs
  | bools xs =>
    simp only [Cont.imm] at hd; cases hd
    simp only [ContRep] at hc; subst hc
    simp only [Rep, subL_eq _ _ _ hle, boolsV_sub]; exact hs
  | ints2 k xss =>
    simp only [Cont.imm] at hd; cases hd
    simp only [ContRep] at hc
    simp only [Rep, subL_eq _ _ _ hle]
    exact ⟨_, (hc.drop l).take n, hs⟩
  | gen els =>
    simp only [Cont.imm] at hd; cases hd
    simp only [Rep, subL_eq _ _ _ hle]
    exact ⟨_, (hc.1.drop l).take n, fun u hu => hc.2 u (List.mem_of_mem_drop (List.mem_of_mem_take hu)), hs⟩
  | var cells => simp [Cont.imm] at hd

theorem sliceAt_run (hX : XOK P X) {t : TypeId} {i ei : TI} {e : TypeId} (ht : X.tt t = some i) (hk : i.kind = .slice e) (he : X.tt e = some ei) (hsz : ei.size = 1) {A : Option Addr} {n c l h m : Nat} {lo hi mx : Option Value}
    (hb : (Instr.sliceBounds true n c lo hi mx).run P w = .ok (l, h, m) w) : (Instr.sliceAt t (.slice A n c) lo hi mx).run P w = .ok (.slice (if m = l then A else A.map (·.add l)) (h - l) (m - l)) w := by
  have hu := (hX.tt t i ht).kind
  rw [hk] at hu
  simp [Instr.sliceAt, Instr.slice, run_underlying hu, hb, sizeOf_run hX he, hsz]

theorem sliceD_run (hX : XOK P X) (h : SR X.glob F w0 M0 w M mu a.tmps st) {t : TypeId} {i : TI} (ht : X.tt t = some i) {x d : D} {u : Value} {lo hi mx : Option Operand} (hx : Rep w M mu x u)
    (hd : sliceD X i st.rows x (lo.map (ev X st)) (hi.map (ev X st)) (mx.map (ev X st)) = some d) : ∃ r, (Instr.sliceAt t u (lo.map a.eval) (hi.map a.eval) (mx.map a.eval)).run P w = .ok r w ∧ Rep w M mu d r := by
  unfold sliceD at hd
  split at hd
  case h_2 => cases hd
  rename_i e hk
  split at hd
  case h_2 => cases hd
  rename_i ei he
  split at hd
  case isFalse => cases hd
  rename_i hsz
  split at hd
  · -- with a third index
    rename_i m hm
    have key : ∀ {A : Option Addr} {n c : Nat}, (lo.map (ev X st) = none) → (∀ k, hi.map (ev X st) = some (.int k 0) → ∀ k', m = .int k' 0 → (Instr.sliceAt t (.slice A n c) (lo.map a.eval) (hi.map a.eval) (mx.map a.eval)).run P w = .ok (.slice A 0 0) w) := by
      intro A n c hlo k hhi k' hmm
      cases lo with
      | some x => simp at hlo
      | none =>
        cases hi with
        | none => simp at hhi
        | some xh =>
          cases mx with
          | none => simp at hm
          | some xm =>
            simp at hhi hm
            have r1 := ev_rep h xh
            have r2 := ev_rep h xm
            rw [hhi] at r1
            rw [hm, hmm] at r2
            simp only [Rep] at r1 r2
            have := sliceAt_run (w := w) hX ht hk he hsz (A := A) (n := n) (c := c) (l := 0) (h := 0) (m := 0) (lo := none) (hi := some (a.eval xh)) (mx := some (a.eval xm))
              (by rw [r1, r2]; simp [Instr.sliceBounds, Instr.sliceBound, asIntOf])
            simpa using this
    split at hd
    · rename_i k kh hlo hhi hmm
      cases hd
      simp only [Rep] at hx
      obtain ⟨A, rfl⟩ := hx
      exact ⟨_, key (by assumption) _ (by assumption) _ rfl, by simp only [Rep]; exact ⟨_, rfl⟩⟩
    · rename_i k xs kh hlo hhi hmm
      cases hd
      simp only [Rep] at hx
      obtain ⟨A, c, rfl, _⟩ := hx
      exact ⟨_, key (by assumption) _ (by assumption) _ rfl, by simp only [Rep]; exact ⟨_, rfl⟩⟩
    · rename_i xs kh hlo hhi hmm
      cases hd
      simp only [Rep] at hx
      obtain ⟨A, c, rfl, _⟩ := hx
      exact ⟨_, key (by assumption) _ (by assumption) _ rfl, by simp only [Rep]; exact ⟨_, rfl⟩⟩
    · rename_i k xs kh hlo hhi hmm
      cases hd
      simp only [Rep] at hx
      obtain ⟨cv, _, A, c, rfl, _⟩ := hx
      exact ⟨_, key (by assumption) _ (by assumption) _ rfl, by simp only [Rep]; exact ⟨_, rfl⟩⟩
    · rename_i xs kh hlo hhi hmm
      cases hd
      simp only [Rep] at hx
      obtain ⟨cv, _, _, A, c, rfl, _⟩ := hx
      exact ⟨_, key (by assumption) _ (by assumption) _ rfl, by simp only [Rep]; exact ⟨_, rfl⟩⟩
    · skip
      rename_i r off n kh hh km m' hhi
      split at hd
      case h_2 => cases hd
      rename_i l hlo
      split at hd
      case isFalse => cases hd
      rename_i hcond
      cases hd
      obtain ⟨A, c, rfl, hnc⟩ : ∃ A c, u = .slice A n c ∧ n ≤ c := by
        simp only [Rep] at hx
        obtain ⟨loc, hl, hs⟩ := hx
        cases loc with
        | nowhere => obtain ⟨rfl, A, rfl⟩ := hs; exact ⟨A, 0, rfl, Nat.le_refl _⟩
        | at_ b base size =>
          rcases hs with ⟨rfl, _, A, rfl⟩ | ⟨c, rfl, hn, _⟩
          · exact ⟨A, 0, rfl, Nat.le_refl _⟩
          · exact ⟨_, c, rfl, hn⟩
      cases hi with
      | none => simp at hhi
      | some xh => cases mx with
        | none => simp at hm
        | some xm =>
          simp at hhi hm
          have r1 := ev_rep h xh
          have r2 := ev_rep h xm
          rw [hhi] at r1
          rw [hm] at r2
          simp only [Rep] at r1 r2
          have hb : (Instr.sliceBounds true n c (lo.map a.eval) ((some xh).map a.eval) ((some xm).map a.eval)).run P w = .ok (l, hh.toNat, m'.toNat) w := by
            have c1 : (0 : Int) ≤ m' ∧ m' ≤ (c : Int) := by omega
            have c2 : (0 : Int) ≤ hh ∧ hh ≤ (m'.toNat : Int) := by omega
            have c3 : (0 : Int) ≤ (l : Int) ∧ (l : Int) ≤ (hh.toNat : Int) := by omega
            have sb : ∀ (k : IntKind) (i : Int) (y : Nat) (code : BoundsCode), 0 ≤ i ∧ i ≤ (y : Int) → (Instr.sliceBound (.int k i) y code).run P w = .ok i.toNat w := fun k i y code hh => by
              simp [Instr.sliceBound, asIntOf, hh]
            have s1 := sb km m' c
            have s2 := sb kh hh m'.toNat
            rcases bnd_run h hlo with ⟨rfl, rfl⟩ | ⟨k1, g1⟩
            · simp only [Instr.sliceBounds, Option.map_some, Option.map_none, r1, r2, Sem.run_bind, s1 _ c1, s2 _ c2, Result.andThen_ok, Sem.run_pure]
            · have s3 := sb k1 l hh.toNat
              simp only [Instr.sliceBounds, Option.map_some, g1, r1, r2, Sem.run_bind, s1 _ c1, s2 _ c2, s3 _ c3, Result.andThen_ok, Sem.run_pure, Int.toNat_natCast]
          exact ⟨_, sliceAt_run hX ht hk he hsz hb, by simp only [Rep]⟩
    · cases hd
  · rename_i hm
    have hmx : mx = none := by cases mx with | none => rfl | some x => simp at hm
    subst hmx
    split at hd
    · rename_i r off n
      split at hd
      case h_2 => cases hd
      rename_i l hh h1 h2
      split at hd
      case isFalse => cases hd
      rename_i hlh
      cases hd
      simp only [Rep] at hx ⊢
      obtain ⟨loc, hl, hs⟩ := hx
      have room : ∀ c, (match loc with | .nowhere => n = 0 ∧ c = 0 | .at_ _ _ size => n ≤ c ∧ off + c = size) → hh ≤ c := by
        intro c hc
        rcases hlh.2 with h3 | h3
        · cases loc with
          | nowhere => simp only at hc; omega
          | at_ b base size => simp only at hc; omega
        · unfold roomy at h3
          split at h3
          case h_2 => cases h3
          rename_i row hrow
          simp only [Bool.and_eq_true, decide_eq_true_eq] at h3
          obtain ⟨l', e', hh'⟩ := h.rows r row hrow
          rw [hl] at e'
          cases e'
          cases loc with
          | nowhere =>
            have hc' : ContRep w M mu row.c [] := hh'
            have := hc'.len
            simp at this
            omega
          | at_ b base size =>
            obtain ⟨cs, T, cv, _, _, f3, f4, _⟩ := hh'
            have := f3.len
            simp only at hc
            omega
      cases loc with
      | nowhere =>
        simp only [Loc.slice] at hs
        obtain ⟨rfl, A, rfl⟩ := hs
        have hr0 := room 0 ⟨rfl, rfl⟩
        have hb := sliceBounds_run (P := P) h h1 h2 hlh.1 hr0
        obtain rfl : hh = 0 := by omega
        obtain rfl : l = 0 := by omega
        exact ⟨_, sliceAt_run hX ht hk he hsz hb, _, hl, rfl, A, by simp⟩
      | at_ b base size =>
        simp only [Loc.slice] at hs
        rcases hs with ⟨rfl, rfl, A, rfl⟩ | ⟨c, rfl, hn, hsize⟩
        · have hr0 := room 0 ⟨Nat.le_refl _, by omega⟩
          have hb := sliceBounds_run (P := P) h h1 h2 hlh.1 hr0
          obtain rfl : hh = 0 := by omega
          obtain rfl : l = 0 := by omega
          exact ⟨_, sliceAt_run hX ht hk he hsz hb, _, hl, .inl ⟨by omega, by omega, A, by simp⟩⟩
        · have hr0 := room c ⟨hn, hsize⟩
          have hb := sliceBounds_run (P := P) h h1 h2 hlh.1 hr0
          refine ⟨_, sliceAt_run hX ht hk he hsz hb, _, hl, ?_⟩
          simp only [Loc.slice]
          by_cases hcl : c = l
          · refine .inl ⟨by omega, by omega, some ⟨b, base + off, none⟩, ?_⟩
            rw [if_pos hcl]
            congr 1 <;> omega
          · refine .inr ⟨c - l, ?_, by omega, by omega⟩
            rw [if_neg hcl]
            simp [addr_add_lit, Nat.add_assoc]
    · rename_i k
      split at hd
      case h_2 => cases hd
      rename_i h1 h2
      cases hd
      simp only [Rep] at hx
      obtain ⟨A, rfl⟩ := hx
      have hb := sliceBounds_run (P := P) h h1 h2 (Nat.le_refl _) (Nat.le_refl _)
      exact ⟨_, sliceAt_run hX ht hk he hsz hb, by simp only [Rep]; exact ⟨A, by simp⟩⟩
    · rename_i hno1 hno2
      split at hd
      case h_2 => cases hd
      rename_i c hc
      split at hd
      case h_2 => cases hd
      rename_i l hh h1 h2
      split at hd
      case isFalse => cases hd
      rename_i hlh
      obtain ⟨cv, hcr, ⟨A, cap, rfl, hle, hheld⟩, hv⟩ := SlV.cont hX hx hc
      have hlen := hcr.len
      have hb := sliceBounds_run (P := P) (c := cap) h h1 h2 hlh.1 (by omega)
      rw [← hlen] at hb
      exact ⟨_, sliceAt_run hX ht hk he hsz hb, Cont.imm_rep hcr (by omega) hd (SlV.sub rfl hle hheld hlh.1 (by omega))⟩

theorem setCells_rep {cs : List D} {cv : List Value} {mu' : Nat → Option Loc} (h : RepL w M mu' cs cv) : ∀ {vs : List D} {us : List Value} (off : Nat), RepL w M mu' vs us → ∃ cv', RepL w M mu' (setCells cs off vs) cv' ∧ cv'.length = cv.length ∧
    (us.zipIdx.foldl (fun (cs : Array Value) (p : Value × Nat) => cs.setIfInBounds (off + p.2) p.1) cv.toArray).toList = cv' := by
  intro vs
  induction vs generalizing cs cv with
  | nil =>
    intro us off hu
    cases us with
    | nil => exact ⟨cv, h, rfl, by simp⟩
    | cons => simp only [RepL] at hu
  | cons d vs ih =>
    intro us off hu
    cases us with
    | nil => simp only [RepL] at hu
    | cons u us =>
      simp only [RepL] at hu
      obtain ⟨cv', h1, h2, h3⟩ := ih (RepL.set hu.1 off h) (off + 1) hu.2
      refine ⟨cv', h1, by simpa using h2, ?_⟩
      rw [← h3]
      simp only [List.zipIdx_cons, List.foldl_cons, Nat.add_zero, Nat.zero_add]
      have : ∀ (us : List Value) (k : Nat) (arr : Array Value), (us.zipIdx (k + 1)).foldl (fun (cs : Array Value) (p : Value × Nat) => cs.setIfInBounds (off + p.2) p.1) arr = (us.zipIdx k).foldl (fun (cs : Array Value) (p : Value × Nat) => cs.setIfInBounds (off + 1 + p.2) p.1) arr := by
        intro us
        induction us with
        | nil => intro k arr; rfl
        | cons x xs ihx =>
          intro k arr
          simp only [List.zipIdx_cons, List.foldl_cons]
          rw [ihx (k + 1)]
          congr 2
          omega
      rw [this us 0]
      congr 2
      simp

theorem cells_rep {d : D} {v : Value} {mu' : Nat → Option Loc} (h : Rep w M mu' d v) (hv : d.known = true) : RepL w M mu' d.cells v.cells.toList := by
  cases d <;> simp [D.known] at hv <;> simp only [Rep] at h <;> simp only [D.cells]
  case agg cells => obtain ⟨cv, rfl, h⟩ := h; simpa [Value.cells] using h
  all_goals
    first
      | (subst h; simp [Value.cells, RepL, Rep]; done)
      | (obtain ⟨A, rfl⟩ := h; simp [Value.cells, RepL, Rep]; done)
      | (obtain ⟨cv, rfl, h⟩ := h; simp only [Value.cells, RepL, Rep]; exact ⟨⟨_, rfl, h⟩, trivial⟩)
      | (obtain ⟨A, c, rfl, h⟩ := h; simp only [Value.cells, RepL, Rep]; exact ⟨⟨A, c, rfl, h⟩, trivial⟩)
      | (obtain ⟨cv, h1, A, c, rfl, h⟩ := h; simp only [Value.cells, RepL, Rep]; exact ⟨⟨cv, h1, A, c, rfl, h⟩, trivial⟩)
      | (obtain ⟨cv, h0, h1, A, c, rfl, h⟩ := h; simp only [Value.cells, RepL, Rep]; exact ⟨⟨cv, h0, h1, A, c, rfl, h⟩, trivial⟩)
      | (obtain ⟨ad, cv, rfl, h⟩ := h; simp only [Value.cells, RepL, Rep]; exact ⟨⟨ad, cv, rfl, h⟩, trivial⟩)
      | skip
  all_goals
    obtain ⟨l, hl, hs⟩ := h
    cases l with
    | nowhere => first | (simp [Loc.cell] at hs; done) | (obtain ⟨h0, A, rfl⟩ := hs; simp only [Value.cells, RepL, Rep]; exact ⟨⟨_, hl, h0, A, rfl⟩, trivial⟩)
    | at_ b base size => first | (simp only [Loc.cell] at hs; subst hs; simp only [Value.cells, RepL, Rep]; exact ⟨⟨_, hl, rfl⟩, trivial⟩) | (rcases hs with ⟨h0, h1, A, rfl⟩ | ⟨c, rfl, h1⟩ <;> simp only [Value.cells, RepL, Rep] <;> first | exact ⟨⟨_, hl, .inl ⟨h0, h1, A, rfl⟩⟩, trivial⟩ | exact ⟨⟨_, hl, .inr ⟨c, rfl, h1⟩⟩, trivial⟩)

theorem fill_run (hX : XOK P X) {fs : List (Nat × TypeId)} {place : Nat → Option (Nat × Nat)} (hp : ∀ (f off : Nat) (ft : TypeId) (fi : TI), fs[f]? = some (off, ft) → X.tt ft = some fi → place f = some (off, fi.size)) :
    ∀ (ps : List (Nat × D)) (us : List (Nat × Value)) (cs : List D) (cv : List Value) (res : List D), All2 (fun p u => p.1 = u.1 ∧ Rep w M mu p.2 u.2) ps us → RepL w M mu cs cv → buildD X fs cs ps = some res →
      ∃ cv', Instr.fill place cv.toArray us = some cv'.toArray ∧ RepL w M mu res cv'
  | [], [], cs, cv, res, _, hr, hb => by simp only [buildD] at hb; cases hb; exact ⟨cv, by simp [Instr.fill], hr⟩
  | [], _ :: _, _, _, _, h, _, _ => by simp [All2] at h
  | _ :: _, [], _, _, _, h, _, _ => by simp [All2] at h
  | (f, d) :: ps, (g, u) :: us, cs, cv, res, h, hr, hb => by
    obtain ⟨⟨rfl, hd⟩, hrest⟩ := h
    simp only [buildD] at hb
    split at hb
    case h_2 => cases hb
    rename_i off ft hft
    split at hb
    case h_2 => cases hb
    rename_i fi hfi
    split at hb
    case isFalse => cases hb
    rename_i hh
    obtain ⟨hk, hl, hle⟩ := hh
    have hc := cells_rep hd hk
    have hlen := hc.length
    obtain ⟨cv', h1, h2, h3⟩ := setCells_rep hr off hc
    obtain ⟨cv'', h4, h5⟩ := fill_run hX hp ps us _ cv' res hrest h1 hb
    refine ⟨cv'', ?_, h5⟩
    rw [← h4]
    have hus : u.cells.size = fi.size := by simpa [hl] using hlen.symm
    have hcs := hr.length
    simp only [Instr.fill, hp _ _ _ _ hft hfi]
    rw [if_neg (by simp [hus]; omega)]
    congr 1
    apply Array.ext'
    rw [← h3]
    simp only [← Array.foldl_toList, Array.toList_zipIdx]

theorem mapM_places (hX : XOK P X) : ∀ (fields : List Field), (fields.map (fun f => (f.offset, f.type))).all (fun p => (X.tt p.2).isSome) = true → ∃ pl : List (Nat × Nat), (fields.mapM fun (f : Field) => do pure (f.offset, ← sizeOf f.type)).run P w = .ok pl w ∧
    ∀ (f off : Nat) (ft : TypeId) (fi : TI), (fields.map (fun f => (f.offset, f.type)))[f]? = some (off, ft) → X.tt ft = some fi → pl[f]? = some (off, fi.size)
  | [], _ => ⟨[], by simp, by simp⟩
  | fld :: fields, h => by
    simp only [List.map_cons, List.all_cons, Bool.and_eq_true] at h
    obtain ⟨pl, h1, h2⟩ := mapM_places hX fields h.2
    obtain ⟨fi, hfi⟩ := Option.isSome_iff_exists.1 h.1
    refine ⟨(fld.offset, fi.size) :: pl, ?_, ?_⟩
    · simp only [List.mapM_cons, Sem.run_bind, sizeOf_run hX hfi, Result.andThen_ok, Sem.run_pure, h1]
    · intro f off ft fi' hf hfi'
      cases f with
      | zero => simp at hf; obtain ⟨rfl, rfl⟩ := hf; rw [hfi] at hfi'; cases hfi'; simp
      | succ f => simpa using h2 f off ft fi' (by simpa using hf) hfi'

theorem build_run (hX : XOK P X) (h : SR X.glob F w0 M0 w M mu a.tmps st) {t : TypeId} {i : TI} (ht : X.tt t = some i) {fs : List (Nat × TypeId)} (hk : i.kind = .struct fs) (hall : (fs.all fun p => (X.tt p.2).isSome) = true) {parts : Array (Nat × Operand)} {res : List D}
    (hb : buildD X fs i.zero (parts.toList.map fun p => (p.1, ev X st p.2)) = some res) : ∃ r, (Instr.build t (parts.map fun (i, x) => (i, a.eval x))).run P w = .ok r w ∧ Rep w M mu (.agg res) r := by
  obtain ⟨ti, z, h1, h2, h3, h4, h5, _⟩ := (hX.tt t i ht).info
  have hu := (hX.tt t i ht).kind
  rw [hk] at hu
  obtain ⟨fields, hu, hf⟩ := hu
  subst hf
  obtain ⟨pl, g1, g2⟩ := mapM_places (w := w) hX fields.toList hall
  have hzero : RepL w M mu i.zero z.cells.toList := zerosOK_rep h5
  have hparts : ∀ (ps : List (Nat × Operand)), All2 (fun (p : Nat × D) (u : Nat × Value) => p.1 = u.1 ∧ Rep w M mu p.2 u.2) (ps.map fun p => (p.1, ev X st p.2)) (ps.map fun p => (p.1, a.eval p.2)) := by
    intro ps
    induction ps with
    | nil => simp [All2]
    | cons p ps ih => exact ⟨⟨rfl, ev_rep h p.2⟩, ih⟩
  obtain ⟨cv', k1, k2⟩ := fill_run (place := fun f => pl[f]?) hX (fun f off ft fi hft hfi => g2 f off ft fi hft hfi) _ _ _ _ _ (hparts parts.toList) hzero hb
  refine ⟨.agg cv'.toArray, ?_, by simp only [Rep]; exact ⟨_, rfl, k2⟩⟩
  have hm : (fields.mapM fun (f : Field) => do pure (f.offset, ← sizeOf f.type)).run P w = .ok pl.toArray w := by
    rw [Array.mapM_eq_mapM_toList]
    simp only [Sem.run_map, g1, Result.andThen_ok]
  have hp2 : (parts.map fun (x : Nat × Operand) => (x.1, a.eval x.2)).toList = parts.toList.map fun p => (p.1, a.eval p.2) := by simp
  simp only [Instr.build, Sem.run_bind, zeroValue, typeInfo, run_program, h1, Result.andThen_ok, Sem.run_pure, h4, run_underlying hu, hm]
  rw [hp2]
  have : Instr.fill (fun x => pl.toArray[x]?) z.cells (parts.toList.map fun p => (p.1, a.eval p.2)) = some cv'.toArray := by
    rw [← k1]
    congr 1
    · funext f; simp
  rw [this]
  rfl

/-- Whatever the evaluator tells of an operation that reads at most, the model does. -/
theorem quiet_sound (hX : XOK P X) (h : SR X.glob F w0 M0 w M mu a.tmps st) {o : Oper} {d : D} (hq : quiet X st o = some d) : ∃ v, (execOp a.eval o).run P w = .ok (.value v) w ∧ Rep w M mu d v := by
  unfold quiet at hq
  split at hq
  · rename_i x hop
    cases hq
    exact ⟨_, by simp [execOp, hop], ev_rep h x⟩
  · rename_i c x y hop
    split at hq
    case h_2 => cases hq
    rename_i t hc
    cases hq
    have hcr := ev_rep h c
    rw [hc] at hcr
    simp only [Rep] at hcr
    refine ⟨if t then a.eval x else a.eval y, by simp [execOp, hop, hcr, asBool], ?_⟩
    unfold pickD
    have hx := ev_rep h x
    have hy := ev_rep h y
    split
    · rename_i p q hp hq
      rw [hp] at hx; rw [hq] at hy
      simp only [Rep] at hx hy ⊢
      cases t <;> simp [hx, hy]
    · cases t <;> simp [hx, hy]
  · rename_i t x hop
    split at hq
    case h_2 => cases hq
    rename_i i ht
    obtain ⟨u, h1, h2⟩ := loadD_sound hX h ht (ev_rep h x) hq
    exact ⟨u, by simp [execOp, hop, h1], h2⟩
  · rename_i x hop
    have hx := ev_rep h x
    split at hq
    · rename_i r o' e
      cases hq
      rw [e] at hx
      refine ⟨a.eval x, ?_, hx⟩
      simp only [Rep] at hx
      obtain ⟨l, hl, hv⟩ := hx
      cases l with
      | nowhere => simp [Loc.cell] at hv
      | at_ b base size => simp only [Loc.cell] at hv; simp [execOp, hop, hv]
    · rename_i cs e
      cases hq
      rw [e] at hx
      refine ⟨a.eval x, ?_, hx⟩
      simp only [Rep] at hx
      obtain ⟨ad, cv, hv, _⟩ := hx
      simp [execOp, hop, hv]
    · cases hq
  · rename_i op t x y _ hop
    unfold binC at hq
    split at hq
    · -- a comparison with nil
      split at hq
      case h_2 => cases hq
      rename_i e _ _ _ ht
      have hu : P.underlying t = some (.slice e) := (hX.tt _ _ ht).kind
      have hx := ev_rep h x
      obtain ⟨ad, n, c, hv⟩ : ∃ ad n c, a.eval x = .slice (some ad) n c := by
        unfold nilD at hq
        split at hq
        case isFalse => cases hq
        rename_i hs
        generalize ev X st x = d at *
        unfold D.some? at hs
        split at hs
        · simp only [Rep] at hx
          obtain ⟨l, hl, hsl⟩ := hx
          simp only [decide_eq_true_eq] at hs
          cases l with
          | nowhere => obtain ⟨rfl, _⟩ := hsl; omega
          | at_ b base size =>
            rcases hsl with ⟨rfl, _⟩ | ⟨c, e, _⟩
            · omega
            · exact ⟨_, _, c, e⟩
        · split at hs
          case h_2 => cases hs
          rename_i c hc
          simp only [decide_eq_true_eq] at hs
          obtain ⟨cv, hcr, ⟨A, cap, e, _, hh⟩, _⟩ := SlV.cont hX hx hc
          have := hcr.len
          rcases hh with rfl | ⟨ad, rfl, _⟩
          · simp at this; omega
          · exact ⟨ad, _, cap, e⟩
      have hg : (eqGuard op t x (.const (.slice none 0 0)) (.slice (some ad) n c) (.slice none 0 0)).run P w = .ok () w := by
        cases op <;> simp [eqGuard]
      have hrun : (binOp .eql t (.slice (some ad) n c) (.slice none 0 0)).run P w = .ok (.bool false) w := Go.Lib.run_eql_slice_nil w t e (some ad) n c 0 0 hu
      have hrun2 : (binOp .neq t (.slice (some ad) n c) (.slice none 0 0)).run P w = .ok (.bool true) w := by
        simp only [binOp]
        simp [Op.equal, Op.maxDepth, Go.Lib.run_equalIn_slice_nil w 9999 t e (some ad) n c 0 0 hu]
      have hcst : a.eval (.const (.slice none 0 0)) = .slice none 0 0 := rfl
      unfold nilD at hq
      split at hq
      case isFalse => cases hq
      cases op <;> simp at hq <;> subst hq
      · exact ⟨.bool false, by simp [execOp, hop, hv, hcst, hg, hrun], by simp only [Rep]⟩
      · exact ⟨.bool true, by simp [execOp, hop, hv, hcst, hg, hrun2], by simp only [Rep]⟩
    rename_i hnonil
    obtain ⟨r, h1, h2⟩ := binD_run hX (ev_rep h x) (ev_rep h y) hq
    refine ⟨r, ?_, h2⟩
    have hg : (eqGuard op t x y (a.eval x) (a.eval y)).run P w = .ok () w := by
      have hx := ev_rep h x
      have : (match a.eval x with | .int _ _ | .bool _ => true | _ => false) = true := by
        generalize ev X st x = dx at *
        generalize ev X st y = dy at *
        unfold binD at hq
        split at hq
        · simp only [Rep] at hx; rw [hx]
        · simp only [Rep] at hx; rw [hx]
        · cases hq
      exact eqGuard_run this
    simp [execOp, hop, hg, h1]
  · rename_i op t x hop
    obtain ⟨r, h1, h2⟩ := unD_run (P := P) (ev_rep h x) hq
    exact ⟨r, by simp [execOp, hop, h1], h2⟩
  · rename_i s dt x hop
    split at hq
    case h_2 => cases hq
    rename_i si di k n hs hd hx
    split at hq
    case h_2 => cases hq
    rename_i k1 k2 e1 e2
    cases hq
    have hxr := ev_rep h x
    rw [hx] at hxr
    simp only [Rep] at hxr
    have u1 := (hX.tt _ _ hs).kind
    have u2 := (hX.tt _ _ hd).kind
    rw [e1] at u1
    rw [e2] at u2
    exact ⟨.int k2 (k2.wrap n), by simp [execOp, hop, convert, run_underlying u1, run_underlying u2, hxr, Conv.intToInt], by simp only [Rep]⟩
  · rename_i f first captured hop
    split at hq
    case isFalse => cases hq
    rename_i h0
    cases hq
    have : first = #[] := by simpa using h0
    subst this
    refine ⟨.func (.func f) #[] (captured.map a.eval), by simp [execOp, hop, Instr.makeFunc], ?_⟩
    simp only [Rep]
    refine ⟨captured.toList.map a.eval, ?_, ev_repL h _⟩
    congr 1
    apply Array.ext'
    simp
  · rename_i t x lo hi mx hop
    split at hq
    case h_2 => cases hq
    rename_i i ht
    obtain ⟨r, h1, h2⟩ := sliceD_run hX h ht (ev_rep h x) hq
    exact ⟨r, by simp [execOp, hop, h1], h2⟩
  · rename_i t x f hop
    split at hq
    case h_2 => cases hq
    rename_i i ht
    obtain ⟨r, h1, h2⟩ := fieldAddrD_run hX ht (ev_rep h x) hq
    exact ⟨r, by simp [execOp, hop, h1], h2⟩
  · rename_i t x f hop
    split at hq
    case h_2 => cases hq
    rename_i i ht
    obtain ⟨r, h1, h2⟩ := fieldD_run hX ht (ev_rep h x) hq
    exact ⟨r, by simp [execOp, hop, h1], h2⟩
  · rename_i t x ix hop
    split at hq
    case h_2 => cases hq
    rename_i i ht
    obtain ⟨r, h1, h2⟩ := indexAddrD_run hX ht (ev_rep h x) (ev_rep h ix) hq
    exact ⟨r, by simp [execOp, hop, h1], h2⟩
  · rename_i t parts hop
    split at hq
    case h_2 => cases hq
    rename_i fs _ _ zero ht
    split at hq
    case isFalse => cases hq
    rename_i hall
    obtain ⟨res, hb, rfl⟩ := Option.map_eq_some_iff.1 hq
    obtain ⟨r, h1, h2⟩ := build_run hX h ht rfl hall hb
    exact ⟨r, by simp [execOp, hop, h1], h2⟩
  · rename_i t ix hop
    split at hq
    case h_2 => cases hq
    rename_i vs hv
    have hr := ev_rep h t
    rw [hv] at hr
    simp only [Rep] at hr
    obtain ⟨cv, he, hr⟩ := hr
    obtain ⟨v, h1, h2⟩ := hr.get ix d hq
    exact ⟨v, by simp [execOp, hop, he, Instr.extract, h1], h2⟩
  · rename_i args argTypes hop
    split at hq
    case h_2 => cases hq
    rename_i x t hargs hty
    split at hq
    case h_2 => cases hq
    rename_i e _ _ _ ht
    have hu := (hX.tt _ _ ht).kind
    obtain rfl : args = #[x] := by cases args; simp_all
    obtain rfl : argTypes = #[t] := by cases argTypes; simp_all
    have hx := ev_rep h x
    have key : ∀ (A : Option Addr) (n c : Nat), a.eval x = .slice A n c → (execOp a.eval o).run P w = .ok (.value (goInt n)) w := by
      intro A n c e
      simp [execOp, hop, resolve, invoke, builtin, Builtin.len_, run_underlying hu, e]
    generalize ev X st x = dx at *
    unfold lenD at hq
    split at hq
    · cases hq
      simp only [Rep] at hx
      obtain ⟨l, hl, hs⟩ := hx
      cases l with
      | nowhere => obtain ⟨rfl, A, e⟩ := hs; exact ⟨_, key _ _ _ e, by simp only [Rep, goInt]⟩
      | at_ b base size =>
        rcases hs with ⟨rfl, _, A, e⟩ | ⟨c, e, _⟩ <;> exact ⟨_, key _ _ _ e, by simp only [Rep, goInt]⟩
    · cases hq
      simp only [Rep] at hx
      obtain ⟨A, e⟩ := hx
      exact ⟨_, key _ _ _ e, by simp [Rep, goInt]⟩
    · obtain ⟨c, hc, rfl⟩ := Option.map_eq_some_iff.1 hq
      obtain ⟨cv, hcr, ⟨A, cap, e, _⟩, _⟩ := SlV.cont hX hx hc
      exact ⟨_, key _ _ _ e, by simp only [Rep, goInt, hcr.len]⟩
  · rename_i args argTypes hop
    split at hq
    case h_2 => cases hq
    rename_i x t hargs hty
    split at hq
    case h_2 => cases hq
    rename_i e _ _ _ ht
    have hu := (hX.tt _ _ ht).kind
    obtain rfl : args = #[x] := by cases args; simp_all
    obtain rfl : argTypes = #[t] := by cases argTypes; simp_all
    have hx := ev_rep h x
    generalize ev X st x = dx at *
    unfold capD at hq
    split at hq
    case h_2 => cases hq
    cases hq
    simp only [Rep] at hx
    obtain ⟨A, e⟩ := hx
    exact ⟨goInt 0, by simp [execOp, hop, resolve, invoke, builtin, Builtin.cap_, run_underlying hu, e], by simp [Rep, goInt]⟩
  · cases hq

end
end Go.PR
