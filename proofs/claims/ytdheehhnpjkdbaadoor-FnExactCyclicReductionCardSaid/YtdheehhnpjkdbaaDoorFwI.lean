/- Settled values; writes of elements: sound. -/
import Derived.Test.YtdheehhnpjkdbaaDoorFwH
set_option linter.unusedVariables false
set_option linter.unusedSimpArgs false
namespace Go.PR
open Go

section
variable {P : Program} {X : Ctx} {G : Nat → Option D} {F : Nat → Prop} {w0 w w' : World} {M0 : Entry} {M : Nat → Prop} {mu : Nat → Option Loc} {tmps : Array Value} {a : Act} {st : St}

/-- M without the blocks of the rows in Z. -/
def Less (M : Nat → Prop) (mu : Nat → Option Loc) (rows : Nat → Option Row) (Z : List Nat) : Nat → Prop := fun b => M b ∧ ¬ ∃ r row, Z.contains r = true ∧ rows r = some row ∧ blockOf (mu r) = some b

theorem less_sub {Z : List Nat} {rows : Nat → Option Row} {b : Nat} (h : Less M mu rows Z b) : M b := h.1

theorem mapO_get {α β : Type} {f : α → Option β} : ∀ {l : List α} {l' : List β}, mapO f l = some l' → l'.length = l.length ∧ ∀ (i : Nat) (y : β), l'[i]? = some y → ∃ x, l[i]? = some x ∧ f x = some y
  | [], l', h => by simp [mapO] at h; subst h; simp
  | x :: l, l', h => by
    simp only [mapO] at h
    split at h
    · rename_i b bs h1 h2
      cases h
      obtain ⟨g1, g2⟩ := mapO_get h2
      refine ⟨by simp [g1], fun i y hy => ?_⟩
      cases i with
      | zero => simp at hy; subst hy; exact ⟨x, by simp, h1⟩
      | succ i => simpa using g2 i y (by simpa using hy)
    · cases h

theorem mapO_rep {f : D → Option D} {M' : Nat → Prop} {mu' : Nat → Option Loc} (hf : ∀ d d' v, f d = some d' → Rep w M mu d v → Rep w M' mu' d' v) : ∀ {ds ds' : List D} {vs : List Value}, mapO f ds = some ds' → RepL w M mu ds vs → RepL w M' mu' ds' vs
  | [], ds', [], h, _ => by simp [mapO] at h; subst h; simp only [RepL]
  | [], _, _ :: _, _, h => by simp only [RepL] at h
  | _ :: _, _, [], _, h => by simp only [RepL] at h
  | d :: ds, ds', v :: vs, h, hr => by
    simp only [mapO] at h
    split at h
    · rename_i b bs h1 h2
      cases h
      simp only [RepL] at hr ⊢
      exact ⟨hf _ _ _ h1 hr.1, mapO_rep hf h2 hr.2⟩
    · cases h

theorem ContRep.sub {c : Cont} {cv : List Value} {M' : Nat → Prop} {mu' : Nat → Option Loc} (hM : ∀ b, M' b → M b) (h : ContRep w M mu c cv) (hv : c.isVar = false) : ContRep w M' mu' c cv := by
  cases c with
  | ints k xs => exact h
  | bools xs => exact h
  | ints2 k xss => exact All2.imp (fun _ _ h => h.keeps (Keeps.refl _ _) (fun b _ hb => hM b hb)) h
  | gen els => exact ⟨RepL.keeps (Keeps.refl _ _) (fun b _ hb => hM b hb) (fun _ _ h => h) els h.1, h.2⟩
  | var cells => cases hv

theorem imm_notVar {c : Cont} {off n : Nat} {d : D} (h : c.imm off n = some d) : c.isVar = false := by
  cases c <;> simp_all [Cont.imm, Cont.isVar]

theorem reify_rep (h : SR G F w0 M0 w M mu tmps st) (Z : List Nat) (mu' : Nat → Option Loc) : ∀ (n : Nat) (d d' : D) (v : Value), reify st.rows Z n d = some d' → Rep w M mu d v → Rep w (Less M mu st.rows Z) mu' d' v
  | 0, d, d', v, h0, _ => by simp [reify] at h0
  | n + 1, d, d', v, h0, hr => by
    have hL : ∀ b, b < w.heap.size → Less M mu st.rows Z b → M b := fun b _ hb => hb.1
    have keep0 : ∀ (d : D) {v : Value}, Rep w M mu0 d v → Rep w (Less M mu st.rows Z) mu' d v := fun d v hr => Rep.keeps (Keeps.refl _ _) hL (fun r l e => by simp [mu0] at e) d hr
    have cellAt : ∀ (r : Nat) (row : Row) (b base size : Nat), Z.contains r = true → st.rows r = some row → mu r = some (.at_ b base size) → ¬ Less M mu st.rows Z b := fun r row b base size hz hrow hl hh => hh.2 ⟨r, row, hz, hrow, by rw [hl]; rfl⟩
    cases d <;> simp only [reify] at h0
    case any => cases h0; simp only [Rep]
    case und => cases h0; simpa only [Rep] using hr
    case nil => cases h0; simpa only [Rep] using hr
    case bool => cases h0; simpa only [Rep] using hr
    case int => cases h0; simpa only [Rep] using hr
    case str => cases h0; simpa only [Rep] using hr
    case immI k xs => cases h0; simp only [Rep] at hr ⊢; exact hr.keeps (Keeps.refl _ _) hL
    case immB xs => cases h0; simp only [Rep] at hr ⊢; exact hr.keeps (Keeps.refl _ _) hL
    case imm2 k xss =>
      cases h0; simp only [Rep] at hr ⊢
      obtain ⟨cv, h1, h2⟩ := hr
      exact ⟨cv, h1.imp (fun _ _ h => h.keeps (Keeps.refl _ _) hL), h2.keeps (Keeps.refl _ _) hL⟩
    case immG els =>
      cases h0; simp only [Rep] at hr ⊢
      obtain ⟨cv, h1, h2, h3⟩ := hr
      exact ⟨cv, RepL.keeps (Keeps.refl _ _) hL (fun _ _ h => h) els h1, h2, h3.keeps (Keeps.refl _ _) hL⟩
    case pim cells =>
      cases h0; simp only [Rep] at hr ⊢
      obtain ⟨ad, cv, e, h1, h2⟩ := hr
      exact ⟨ad, cv, e, RepL.keeps (Keeps.refl _ _) hL (fun _ _ h => h) cells h1, h2.keeps (Keeps.refl _ _) hL⟩
    case fn f cap =>
      obtain ⟨cap', h1, rfl⟩ := Option.map_eq_some_iff.1 h0
      simp only [Rep] at hr ⊢
      obtain ⟨cv, e, hr⟩ := hr
      exact ⟨cv, e, mapO_rep (reify_rep h Z mu' n) h1 hr⟩
    case agg cs =>
      obtain ⟨cs', h1, rfl⟩ := Option.map_eq_some_iff.1 h0
      simp only [Rep] at hr ⊢
      obtain ⟨cv, e, hr⟩ := hr
      exact ⟨cv, e, mapO_rep (reify_rep h Z mu' n) h1 hr⟩
    case tup vs =>
      obtain ⟨cs', h1, rfl⟩ := Option.map_eq_some_iff.1 h0
      simp only [Rep] at hr ⊢
      obtain ⟨cv, e, hr⟩ := hr
      exact ⟨cv, e, mapO_rep (reify_rep h Z mu' n) h1 hr⟩
    case rsl r off m =>
      split at h0
      case isFalse => cases h0
      rename_i hz
      split at h0
      case h_2 => cases h0
      rename_i row hrow
      split at h0
      case isFalse => cases h0
      rename_i hle
      obtain ⟨l, e, hh⟩ := h.rows r row hrow
      simp only [Rep] at hr
      obtain ⟨l', e', hs⟩ := hr
      rw [e] at e'
      cases e'
      have hnv := imm_notVar h0
      cases l with
      | nowhere =>
        have hc : ContRep w M mu row.c [] := hh
        simp only [Loc.slice] at hs
        obtain ⟨rfl, A, rfl⟩ := hs
        refine Cont.imm_rep (M := Less M mu st.rows Z) (hc.sub (fun b hb => hb.1) hnv) hle h0 ?_
        exact ⟨A, 0, by simp, by simp, .inl (by simp)⟩
      | at_ b base size =>
        obtain ⟨cs, T, cv, h1, h2, h3, h4, h5, h6, h7⟩ := hh
        have hlen := h3.len
        refine Cont.imm_rep (M := Less M mu st.rows Z) (h3.sub (fun b hb => hb.1) hnv) hle h0 ?_
        have hl2 : ((cv.drop off).take m).length = m := by simp; omega
        simp only [Loc.slice] at hs
        rcases hs with ⟨rfl, _, A, rfl⟩ | ⟨c, rfl, hmc, hsz⟩
        · exact ⟨A, 0, by simp, by simp, .inl (by simp)⟩
        · refine ⟨_, _, by rw [hl2], by omega, .inr ⟨_, rfl, cellAt r row b base size hz hrow e, fun j hj => ?_⟩⟩
          rw [hl2] at hj
          rw [addr_add_lit, List.getElem?_take, if_pos hj, List.getElem?_drop]
          have := h5 (off + j) (by omega)
          simp only [World.cell?, h1]
          rw [Nat.add_assoc, this]
          simp
    case ptr r off =>
      split at h0
      case isFalse => cases h0
      rename_i hz
      split at h0
      case h_2 => cases h0
      rename_i wr cells hrow
      obtain ⟨cells', h1, rfl⟩ := Option.map_eq_some_iff.1 h0
      simp only [Rep] at hr ⊢
      obtain ⟨l', e', hs⟩ := hr
      obtain ⟨l, e, hh⟩ := h.rows r _ hrow
      rw [e] at e'
      cases e'
      cases l' with
      | nowhere => simp [Loc.cell] at hs
      | at_ b base size =>
        simp only [Loc.cell] at hs
        subst hs
        obtain ⟨cs, T, cv, g1, g2, g3, g4, g5, g6, g7⟩ := hh
        refine ⟨_, cv.drop off, rfl, mapO_rep (reify_rep h Z mu0 n) h1 (g3.1.drop off), ?_⟩
        refine .inr ⟨_, rfl, cellAt r _ b base size hz hrow e, fun j hj => ?_⟩
        rw [addr_add_lit, List.getElem?_drop]
        have := g5 (off + j) (by simp at hj; omega)
        simp only [World.cell?, g1]
        rw [Nat.add_assoc, this]
        simp
    case pel r j =>
      split at h0
      case isFalse => cases h0
      rename_i hz
      split at h0
      case h_2 => cases h0
      rename_i row hrow
      split at h0
      case isTrue => cases h0
      rename_i hnv
      obtain ⟨d0, hd0, rfl⟩ := Option.map_eq_some_iff.1 h0
      simp only [Rep] at hr ⊢
      obtain ⟨l', e', hs⟩ := hr
      obtain ⟨l, e, hh⟩ := h.rows r _ hrow
      rw [e] at e'
      cases e'
      cases l' with
      | nowhere => simp [Loc.cell] at hs
      | at_ b base size =>
        simp only [Loc.cell] at hs
        subst hs
        obtain ⟨cs, T, cv, g1, g2, g3, g4, g5, g6, g7⟩ := hh
        obtain ⟨u, hu, _, hu0⟩ := g3.get hd0
        have hj : j < cv.length := by
          rcases Nat.lt_or_ge j cv.length with h | h
          · exact h
          · rw [List.getElem?_eq_none h] at hu; cases hu
        refine ⟨_, [u], rfl, by simp only [RepL]; exact ⟨Rep.keeps (Keeps.refl _ _) hL (fun _ _ h => h) d0 (hu0 (by simpa using hnv)), trivial⟩, .inr ⟨_, rfl, cellAt r _ b base size hz hrow e, fun q hq => ?_⟩⟩
        simp at hq
        subst hq
        have := g5 j hj
        simp [Addr.add, World.cell?, g1, this, hu]

theorem SR.freeze (h : SR G F w0 M0 w M mu tmps st) (Z : List Nat) : SR G F w0 M0 w (Less M mu st.rows Z) mu tmps (st.freeze Z) := by
  have hL : ∀ b, b < w.heap.size → Less M mu st.rows Z b → M b := fun b _ hb => hb.1
  have rowOf : ∀ i ri, (st.freeze Z).rows i = some ri → ∃ r0, st.rows i = some r0 ∧ ri.c = r0.c ∧ ((Z.contains i = true ∧ ri.wr = false) ∨ (Z.contains i = false ∧ ri = r0)) := by
    intro i ri hi
    simp only [St.freeze] at hi
    split at hi
    · rename_i r0 e0
      split at hi
      · rename_i hz; cases hi; exact ⟨_, e0, rfl, .inl ⟨hz, rfl⟩⟩
      · rename_i hz; cases hi; exact ⟨_, e0, rfl, .inr ⟨by simpa using hz, rfl⟩⟩
    · cases hi
  refine { env := RepL.keeps (Keeps.refl _ _) hL (fun _ _ h => h) _ h.env, rows := ?_, apart := ?_, keeps := h.keeps, m1 := fun b hb hm => h.m1 b hb hm.1, m2 := ?_, mlt := fun b hb => h.mlt b hb.1, fr := h.fr, glob := fun g d hg => Rep.keeps (Keeps.refl _ _) hL (fun _ _ h => h) d (h.glob g d hg), pin := h.pin }
  · intro i ri hi
    obtain ⟨r0, e0, hc, hor⟩ := rowOf i ri hi
    obtain ⟨l, e, hh⟩ := h.rows i r0 e0
    refine ⟨l, e, ?_⟩
    cases l with
    | nowhere => rw [hc]; exact ContRep.keeps (Keeps.refl _ _) hL (fun _ _ h => h) hh
    | at_ b base size =>
      obtain ⟨cs, T, cv, h1, h2, h3, h4, h5, h6, h7⟩ := hh
      refine ⟨cs, T, cv, h1, h2, by rw [hc]; exact h3.keeps (Keeps.refl _ _) hL (fun _ _ h => h), h4, h5, ?_, ?_⟩
      · intro hw
        rcases hor with ⟨_, hf⟩ | ⟨hz, rfl⟩
        · rw [hf] at hw; cases hw
        · refine ⟨⟨(h6 hw).1, ?_⟩, (h6 hw).2⟩
          rintro ⟨r, row, hzr, hrow, hb⟩
          have hne : i ≠ r := fun e => by rw [e, hzr] at hz; cases hz
          cases hwr : row.wr with
          | true => exact h.apart i r ri row b hne e0 hrow hw hwr (by rw [e]; rfl) hb
          | false =>
            obtain ⟨l2, e2, hh2⟩ := h.rows r row hrow
            obtain ⟨base2, size2, e3⟩ := blockOf_at hb
            rw [e3] at e2
            cases e2
            obtain ⟨_, _, _, _, _, _, _, _, _, h72⟩ := hh2
            exact h72 hwr (h6 hw).1
      · intro hw
        rcases hor with ⟨hz, _⟩ | ⟨hz, rfl⟩
        · exact fun hM => hM.2 ⟨i, r0, hz, e0, by rw [e]; rfl⟩
        · exact fun hM => h7 hw hM.1
  · intro i j ri rj b hij hi hj mi mj bi bj
    obtain ⟨r0, e0, _, h0⟩ := rowOf i ri hi
    obtain ⟨r1, e1, _, h1⟩ := rowOf j rj hj
    rcases h0 with ⟨_, hf⟩ | ⟨_, rfl⟩
    · rw [hf] at mi; cases mi
    · rcases h1 with ⟨_, hf⟩ | ⟨_, rfl⟩
      · rw [hf] at mj; cases mj
      · exact h.apart i j _ _ b hij e0 e1 mi mj bi bj
  · intro b hb hF
    refine ⟨h.m2 b hb hF, ?_⟩
    rintro ⟨r, row, hzr, hrow, hbl⟩
    obtain ⟨l2, e2, hh2⟩ := h.rows r row hrow
    obtain ⟨base2, size2, e3⟩ := blockOf_at hbl
    rw [e3] at e2
    cases e2
    obtain ⟨_, _, _, _, _, _, _, _, h62, h72⟩ := hh2
    cases hwr : row.wr with
    | true => exact hF (h62 hwr).2
    | false => exact h72 hwr (h.m2 b hb hF)

theorem less_nil {Z : List Nat} (h : Z = ([] : List Nat)) : Less M mu st.rows Z = M := by
  subst h
  funext b
  simp [Less]

/-- A settled value. -/
theorem SR.settle (h : SR G F w0 M0 w M mu tmps st) {d d' : D} {s : St} {v : Value} (hs : settle st d = some (d', s)) (hv : Rep w M mu d v) :
    ∃ M', (∀ b, M' b → M b) ∧ SR G F w0 M0 w M' mu tmps s ∧ ∀ mu', Rep w M' mu' d' v := by
  unfold Go.PR.settle at hs
  dsimp only at hs
  generalize reach st.rows [d] = Z at hs
  obtain ⟨d0, h0, h1⟩ := Option.map_eq_some_iff.1 hs
  cases h1
  refine ⟨Less M mu st.rows Z, fun b hb => hb.1, ?_, fun mu' => reify_rep h Z mu' _ _ _ _ h0 hv⟩
  cases Z with
  | nil => rw [less_nil rfl]; exact h
  | cons z zs => exact h.freeze (z :: zs)

theorem plain_one {d : D} (hp : d.plain = true) {v : Value} (h : Rep w M mu d v) : v.oneCell' = true ∧ ∀ mu', Rep w M mu' d v := by
  cases d <;> simp [D.plain] at hp <;> simp only [Rep] at h ⊢
  case bool => subst h; exact ⟨rfl, fun _ => rfl⟩
  case int => subst h; exact ⟨rfl, fun _ => rfl⟩
  case str => subst h; exact ⟨rfl, fun _ => rfl⟩
  case nil => obtain ⟨A, rfl⟩ := h; exact ⟨rfl, fun _ => ⟨A, rfl⟩⟩
  case immI => exact ⟨by obtain ⟨A, c, e, _⟩ := h; rw [e]; rfl, fun _ => h⟩
  case immB => exact ⟨by obtain ⟨A, c, e, _⟩ := h; rw [e]; rfl, fun _ => h⟩
  case imm2 => exact ⟨by obtain ⟨cv, _, A, c, e, _⟩ := h; rw [e]; rfl, fun _ => h⟩
  case immG => exact ⟨by obtain ⟨cv, _, _, A, c, e, _⟩ := h; rw [e]; rfl, fun _ => h⟩
  case pim => exact ⟨by obtain ⟨ad, cv, e, _⟩ := h; rw [e]; rfl, fun _ => h⟩

theorem All2.set {α β : Type} {R : α → β → Prop} {x : α} {y : β} (hxy : R x y) : ∀ (n : Nat) {as : List α} {bs : List β}, All2 R as bs → All2 R (as.set n x) (bs.set n y)
  | _, [], [], _ => by simp [All2]
  | 0, _ :: _, _ :: _, h => ⟨hxy, h.2⟩
  | n + 1, _ :: _, _ :: _, h => ⟨h.1, All2.set hxy n h.2⟩

/-- An element set. -/
theorem ContRep.setEl {c c' : Cont} {cv : List Value} (h : ContRep w M mu c cv) {j : Nat} {d : D} {v : Value} (hv : Rep w M mu d v) (hs : c.set j d = some c') : ContRep w M mu c' (cv.set j v) ∧ j < cv.length ∧ v.oneCell' = true := by
  have hlen := h.len
  cases c with
  | ints k xs =>
    simp only [ContRep] at h; subst h
    cases d <;> simp only [Cont.set] at hs <;> try cases hs
    split at hs <;> cases hs
    rename_i k' n hh
    obtain ⟨rfl, hj⟩ := hh
    simp only [Rep] at hv; subst hv
    exact ⟨by simp [ContRep, intsV, List.map_set], by simpa [intsV] using hj, rfl⟩
  | bools xs =>
    simp only [ContRep] at h; subst h
    cases d <;> simp only [Cont.set] at hs <;> try cases hs
    split at hs <;> cases hs
    rename_i n hj
    simp only [Rep] at hv; subst hv
    exact ⟨by simp [ContRep, boolsV, List.map_set], by simpa [boolsV] using hj, rfl⟩
  | ints2 k xss =>
    simp only [ContRep] at h
    cases d <;> simp only [Cont.set] at hs <;> try cases hs
    · split at hs <;> cases hs
      rename_i kk hj
      simp only [Rep] at hv
      obtain ⟨A, rfl⟩ := hv
      exact ⟨All2.set (R := fun xs u => SlV w M (intsV k xs) u) (x := []) ⟨A, 0, by simp [intsV], by simp [intsV], .inl (by simp [intsV])⟩ j h, by rw [hlen]; exact hj, rfl⟩
    · split at hs <;> cases hs
      rename_i k' ys hh
      obtain ⟨rfl, hj⟩ := hh
      simp only [Rep] at hv
      exact ⟨All2.set (R := fun xs u => SlV w M (intsV k xs) u) hv j h, by rw [hlen]; exact hj, by obtain ⟨A, c, e, _⟩ := hv; rw [e]; rfl⟩
  | gen els =>
    simp only [Cont.set] at hs
    split at hs <;> cases hs
    rename_i hh
    obtain ⟨g1, g2⟩ := plain_one hh.1 hv
    refine ⟨⟨RepL.set (g2 mu0) j h.1, fun u hu => ?_⟩, by rw [hlen]; exact hh.2, g1⟩
    rcases List.mem_or_eq_of_mem_set hu with h1 | h1
    · exact h.2 u h1
    · rw [h1]; exact g1
  | var cells => simp [Cont.set] at hs

/-- A store into an element of a row. -/
theorem SR.storeEl (hX : XOK P X) (h : SR G F w0 M0 w M mu tmps st) {t : TypeId} {i : TI} (ht : X.tt t = some i) (hsz : i.size = 1) {r j : Nat} {d : D} {u v : Value} (hu : Rep w M mu (.pel r j) u) (hv : Rep w M mu d v)
    {c c' : Cont} (hr : st.rows r = some ⟨true, c⟩) (hc : c.set j d = some c') : ∃ w', (Instr.storeAt t u v).run P w = .ok () w' ∧ SR G F w0 M0 w' M mu tmps (st.setRow r ⟨true, c'⟩) := by
  simp only [Rep] at hu
  obtain ⟨l, hl, hcell⟩ := hu
  cases l with
  | nowhere => simp [Loc.cell] at hcell
  | at_ b base size =>
    simp only [Loc.cell] at hcell
    subst hcell
    obtain ⟨cs, T, cv, k1, k2, k3, k4, k5⟩ := h.rowAt hr rfl hl
    obtain ⟨e1, e2, e3⟩ := k3.setEl hv hc
    have hone : v.cells = #[v] := by cases v <;> simp_all [Value.oneCell', Value.cells]
    refine ⟨w.setCell ⟨b, base + j, none⟩ v, ?_, h.write hr rfl hl (setCell_keeps w ⟨b, base + j, none⟩ v) e1 (setCell_heap k1 (base + j) v) (by simpa using k2) (by simpa using k4) ?_⟩
    · have hst := run_storeCells_cells (P := P) b (base + j) [v] 0 w (fun q hq => cell_some k1 (by simp at hq; omega)) (fun q hq => frozen_no k1 _ _) (by simpa using e3)
      simp only [Nat.add_zero, World.setCells] at hst
      simp [Instr.storeAt, Instr.sureAddr, Go.storeVar, sizeOf_run hX ht, hsz, hone, hst]
    · intro q hq
      simp only [List.length_set] at hq
      rw [Array.getElem?_setIfInBounds]
      by_cases hqj : j = q
      · subst hqj
        rw [if_pos rfl, if_pos (by omega), List.getElem?_set_self (by omega)]
      · rw [if_neg (by omega), List.getElem?_set_ne hqj]
        exact k5 q hq

end
end Go.PR
