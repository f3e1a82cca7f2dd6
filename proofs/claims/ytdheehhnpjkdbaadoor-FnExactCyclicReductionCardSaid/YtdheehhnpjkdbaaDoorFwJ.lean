/- Slices made, literals, append: sound. -/
import Derived.Test.YtdheehhnpjkdbaaDoorFwI
import Derived.Deep.AppendSrc
import Derived.Deep.Upon
set_option linter.unusedVariables false
set_option linter.unusedSimpArgs false
namespace Go.PR
open Go

section
variable {P : Program} {X : Ctx} {G : Nat → Option D} {F : Nat → Prop} {w0 w w' : World} {M0 : Entry} {M : Nat → Prop} {mu : Nat → Option Loc} {tmps : Array Value} {a : Act} {st : St}

theorem All2.append {α β : Type} {R : α → β → Prop} : ∀ {as as' : List α} {bs bs' : List β}, All2 R as bs → All2 R as' bs' → All2 R (as ++ as') (bs ++ bs')
  | [], _, [], _, _, h => by simpa using h
  | _ :: _, _, _ :: _, _, h, h' => ⟨h.1, All2.append h.2 h'⟩

theorem ContRep.app {c1 c2 c : Cont} {cv1 cv2 : List Value} (h1 : ContRep w M mu c1 cv1) (h2 : ContRep w M mu c2 cv2) (h : c1.app c2 = some c) : ContRep w M mu c (cv1 ++ cv2) := by
  cases c1 <;> cases c2 <;> simp only [Cont.app] at h <;> try cases h
  · split at h <;> cases h
    rename_i e; subst e
    simp only [ContRep] at h1 h2 ⊢
    subst h1 h2
    simp [intsV]
  · simp only [ContRep] at h1 h2 ⊢
    subst h1 h2
    simp [boolsV]
  · split at h <;> cases h
    rename_i e; subst e
    exact All2.append h1 h2
  · refine ⟨RepL.append h1.1 h2.1, fun u hu => ?_⟩
    rcases List.mem_append.1 hu with h | h
    · exact h1.2 u h
    · exact h2.2 u h

theorem ContRep.subC {c c' : Cont} {cv : List Value} (h : ContRep w M mu c cv) {off n : Nat} (hle : off + n ≤ c.len) (hs : c.sub off n = some c') : ContRep w M mu c' ((cv.drop off).take n) ∧ c'.isVar = false ∧ c'.len = n := by
  cases c <;> simp only [Cont.sub] at hs <;> cases hs
  · simp only [ContRep] at h ⊢; subst h
    simp only [Cont.len] at hle
    simp only [subL_eq _ _ _ hle, intsV_sub]
    exact ⟨trivial, rfl, by simp [Cont.len]; omega⟩
  · simp only [ContRep] at h ⊢; subst h
    simp only [Cont.len] at hle
    simp only [subL_eq _ _ _ hle, boolsV_sub]
    exact ⟨trivial, rfl, by simp [Cont.len]; omega⟩
  · simp only [Cont.len] at hle
    simp only [subL_eq _ _ _ hle]
    exact ⟨(All2.drop off h).take n, rfl, by simp [Cont.len]; omega⟩
  · simp only [Cont.len] at hle
    simp only [subL_eq _ _ _ hle]
    exact ⟨⟨(h.1.drop off).take n, fun u hu => h.2 u (List.mem_of_mem_drop (List.mem_of_mem_take hu))⟩, rfl, by simp [Cont.len]; omega⟩

theorem ContRep.over {c1 c2 c : Cont} {cv1 cv2 : List Value} (h1 : ContRep w M mu c1 cv1) (h2 : ContRep w M mu c2 cv2) {off : Nat} (h : c1.over off c2 = some c) : ContRep w M mu c (cv1.take off ++ cv2 ++ cv1.drop (off + cv2.length)) := by
  cases c1 <;> cases c2 <;> simp only [Cont.over] at h <;> try cases h
  · split at h <;> cases h
    rename_i e; subst e
    simp only [ContRep] at h1 h2 ⊢
    subst h1 h2
    simp [intsV, List.map_take, List.map_drop]
  · simp only [ContRep] at h1 h2 ⊢
    subst h1 h2
    simp [boolsV, List.map_take, List.map_drop]
  · split at h <;> cases h
    rename_i e; subst e
    have hl := All2.length h2
    simp only [ContRep, hl]
    exact All2.append (All2.append (All2.take off h1) h2) (All2.drop _ h1)
  · have hl := h2.1.length
    rw [hl]
    refine ⟨RepL.append (RepL.append (h1.1.take off) h2.1) (h1.1.drop _), fun u hu => ?_⟩
    rcases List.mem_append.1 hu with h | h
    · rcases List.mem_append.1 h with h | h
      · exact h1.2 u (List.mem_of_mem_take h)
      · exact h2.2 u h
    · exact h1.2 u (List.mem_of_mem_drop h)

theorem ContRep.anyMu {c : Cont} {cv : List Value} {mu' : Nat → Option Loc} (h : ContRep w M mu c cv) (hv : c.isVar = false) : ContRep w M mu' c cv := h.sub (fun _ h => h) hv

/-! ### literals -/
theorem SR.buildC {nk : NK} : ∀ (ds : List D) {c c' : Cont} {M : Nat → Prop} {st s : St} {vs cv : List Value}, SR G F w0 M0 w M mu tmps st → buildC X nk ds c st = some (c', s) → RepL w M mu ds vs → ContRep w M mu c cv → c.isVar = false →
    ∃ M', (∀ b, M' b → M b) ∧ SR G F w0 M0 w M' mu tmps s ∧ ContRep w M' mu c' (cv ++ vs) ∧ c'.isVar = false ∧ ∀ v ∈ vs, v.oneCell' = true
  | [], c, c', M, st, s, vs, cv, h, hb, hr, hc, hv => by
    simp only [Go.PR.buildC] at hb
    cases hb
    cases vs with
    | nil => exact ⟨M, fun _ h => h, h, by simpa using hc, hv, by simp⟩
    | cons => simp only [RepL] at hr
  | d :: ds, c, c', M, st, s, [], cv, h, hb, hr, hc, hv => by simp only [RepL] at hr
  | d :: ds, c, c', M, st, s, v :: vs, cv, h, hb, hr, hc, hv => by
    simp only [RepL] at hr
    simp only [Go.PR.buildC] at hb
    split at hb
    case h_2 => cases hb
    rename_i d' s1 hs
    obtain ⟨M1, m1, g1, g2⟩ := h.settle hs hr.1
    have hds := RepL.keeps (mu' := mu) (Keeps.refl _ w) (fun b _ hb => m1 b hb) (fun _ _ h => h) ds hr.2
    have hc1 : ContRep w M1 mu c cv := hc.sub m1 hv
    have go : ∀ {c1 : Cont}, ContRep w M1 mu c1 (cv ++ [v]) → c1.isVar = false → v.oneCell' = true → Go.PR.buildC X nk ds c1 s1 = some (c', s) →
        ∃ M', (∀ b, M' b → M b) ∧ SR G F w0 M0 w M' mu tmps s ∧ ContRep w M' mu c' (cv ++ v :: vs) ∧ c'.isVar = false ∧ ∀ u ∈ v :: vs, u.oneCell' = true := by
      intro c1 k1 k2 k3 k4
      obtain ⟨M2, m2, e1, e2, e3, e4⟩ := SR.buildC ds g1 k4 hds k1 k2
      refine ⟨M2, fun b hb => m1 b (m2 b hb), e1, by simpa using e2, e3, fun u hu => ?_⟩
      rcases List.mem_cons.1 hu with rfl | hu
      · exact k3
      · exact e4 u hu
    have hv' := g2 mu
    split at hb
    · rename_i k xs k' n
      split at hb
      case isFalse => cases hb
      rename_i e; subst e
      simp only [Rep] at hv'
      subst hv'
      exact go (by simp only [ContRep] at hc1 ⊢; subst hc1; simp [intsV]) rfl rfl hb
    · rename_i xs b'
      simp only [Rep] at hv'
      subst hv'
      exact go (by simp only [ContRep] at hc1 ⊢; subst hc1; simp [boolsV]) rfl rfl hb
    · rename_i k xss k' ys
      split at hb
      case isFalse => cases hb
      rename_i e; subst e
      simp only [Rep] at hv'
      exact go (c1 := .ints2 k (xss ++ [ys])) (All2.append (R := fun xs u => SlV w M1 (intsV k xs) u) hc1 (show All2 (fun xs u => SlV w M1 (intsV k xs) u) [ys] [v] from ⟨hv', trivial⟩)) rfl (by obtain ⟨A, c, e, _⟩ := hv'; rw [e]; rfl) hb
    · rename_i k xss k'
      simp only [Rep] at hv'
      obtain ⟨A, rfl⟩ := hv'
      exact go (c1 := .ints2 k (xss ++ [[]])) (All2.append (R := fun xs u => SlV w M1 (intsV k xs) u) hc1 (show All2 (fun xs u => SlV w M1 (intsV k xs) u) [[]] [Value.slice A 0 0] from ⟨⟨A, 0, by simp [intsV], by simp [intsV], .inl (by simp [intsV])⟩, trivial⟩)) rfl rfl hb
    · rename_i els
      split at hb
      case isFalse => cases hb
      rename_i hp
      obtain ⟨p1, p2⟩ := plain_one hp hv'
      refine go (c1 := .gen (els ++ [d'])) ⟨RepL.append hc1.1 (by simp only [RepL]; exact ⟨p2 mu0, trivial⟩), fun u hu => ?_⟩ rfl p1 hb
      rcases List.mem_append.1 hu with h | h
      · exact hc1.2 u h
      · simp at h; subst h; exact p1
    · cases hb

theorem fill_one (place : Nat → Option (Nat × Nat)) (hp : ∀ i, place i = some (i, 1)) : ∀ (vs : List Value) (k : Nat) (cells : Array Value), (∀ v ∈ vs, v.oneCell' = true) → k + vs.length ≤ cells.size →
    ∃ cells', Instr.fill place cells ((vs.zipIdx k).map fun p => (p.2, p.1)) = some cells' ∧ cells'.size = cells.size ∧ (∀ j, j < vs.length → cells'[k + j]? = vs[j]?) ∧ ∀ j, j < k → cells'[j]? = cells[j]?
  | [], k, cells, _, _ => ⟨cells, by simp [Instr.fill], rfl, by simp, fun _ _ => rfl⟩
  | v :: vs, k, cells, h1, hl => by
    simp only [List.length_cons] at hl
    have hone : v.cells = #[v] := by
      have := h1 v (by simp)
      cases v <;> simp_all [Value.oneCell', Value.cells]
    obtain ⟨cells', e1, e2, e3, e4⟩ := fill_one place hp vs (k + 1) (cells.setIfInBounds k v) (fun u hu => h1 u (by simp [hu])) (by simp; omega)
    refine ⟨cells', ?_, by simpa using e2, fun j hj => ?_, fun j hj => ?_⟩
    · rw [← e1]
      simp only [List.zipIdx_cons, List.map_cons, Instr.fill, hp, hone]
      rw [if_neg (by simp; omega)]
      simp
    · cases j with
      | zero => rw [Nat.add_zero, e4 k (by omega), Array.getElem?_setIfInBounds, if_pos rfl, if_pos (by omega)]; rfl
      | succ j => have := e3 j (by simpa using hj); rw [show k + 1 + j = k + (j + 1) by omega] at this; rw [this]; simp
    · rw [e4 j (by omega), Array.getElem?_setIfInBounds, if_neg (by omega)]

theorem parts01_run : ∀ (ps : List (Nat × Operand)) (k : Nat) (ds : List D), parts01 k (ps.map fun p => (p.1, ev X st p.2)) = some ds → ds = ps.map (fun p => ev X st p.2) ∧ ps.map (fun p => p.1) = (List.range' k ps.length)
  | [], k, ds, h => by simp [parts01] at h; subst h; simp
  | p :: ps, k, ds, h => by
    simp only [List.map_cons, parts01] at h
    split at h
    case isFalse => cases h
    rename_i e
    obtain ⟨ds', h1, rfl⟩ := Option.map_eq_some_iff.1 h
    obtain ⟨rfl, g⟩ := parts01_run ps (k + 1) ds' h1
    refine ⟨by simp, ?_⟩
    simp only [List.map_cons, List.length_cons, List.range'_succ, g, e]

theorem zip_parts (ev' : Operand → Value) : ∀ (ps : List (Nat × Operand)) (k : Nat), ps.map (fun p => p.1) = List.range' k ps.length → ps.map (fun p => (p.1, ev' p.2)) = ((ps.map fun p => ev' p.2).zipIdx k).map fun p => (p.2, p.1)
  | [], k, _ => by simp
  | p :: ps, k, h => by
    simp only [List.map_cons, List.length_cons, List.range'_succ, List.cons.injEq] at h
    simp only [List.map_cons, List.zipIdx_cons, h.1, zip_parts ev' ps (k + 1) h.2]

theorem elemOf_spec (hX : XOK P X) {t e : TypeId} {ei : TI} (h : elemOf X t = some (e, ei)) : P.underlying t = some (.slice e) ∧ X.tt e = some ei := by
  unfold elemOf at h
  split at h
  · rename_i e' _ _ _ ht
    obtain ⟨i, h1, h2⟩ := Option.map_eq_some_iff.1 h
    cases h2
    exact ⟨(hX.tt t _ ht).kind, h1⟩
  · cases h

theorem buildSlice_run (hX : XOK P X) {t e : TypeId} {ei : TI} (hu : P.underlying t = some (.slice e)) (he : X.tt e = some ei) (hsz : ei.size = 1) {vs : List Value} (h1 : ∀ v ∈ vs, v.oneCell' = true) (hn : vs.length ≤ 1000000) (parts : Array (Nat × Value)) (hp : parts.toList = (vs.zipIdx 0).map fun p => (p.2, p.1)) :
    (Instr.buildSlice t vs.length parts).run P w = .ok (.slice (some ⟨w.heap.size, 0, none⟩) vs.length vs.length) (w.alloc (.cells vs.toArray e)) := by
  obtain ⟨ti, z, i1, i2, i3, i4, i5, _⟩ := (hX.tt e ei he).info
  have hn' : ¬ 16777216 < vs.length := by omega
  have key : ∀ (cells : Array Value), cells.size = vs.length → Instr.fill (fun i => some (i * 1, 1)) cells parts.toList = some vs.toArray := by
    intro cells hc
    obtain ⟨cells', e1, e2, e3, _⟩ := fill_one (fun i => some (i * 1, 1)) (fun i => by simp) vs 0 cells h1 (by omega)
    rw [hp, e1]
    congr 1
    apply Array.ext_getElem?
    intro j
    by_cases hj : j < vs.length
    · have := e3 j hj; rw [Nat.zero_add] at this; rw [this]; simp
    · rw [Array.getElem?_eq_none (by omega), Array.getElem?_eq_none (by simp; omega)]
  by_cases h0 : vs.length = 0
  · have hvs : vs = [] := List.eq_nil_of_length_eq_zero h0
    subst hvs
    have hpl : parts.toList = [] := by simpa using hp
    simp [Instr.buildSlice, run_underlying hu, sizeOf_run hX he, hsz, hpl, Instr.fill, newRow, Array.range_zero']
  · simp only [Instr.buildSlice, Sem.run_bind, run_underlying hu, Result.andThen_ok, sizeOf_run hX he, hsz, Nat.mul_one]
    simp [hn', h0, zeroValue, typeInfo, i1, i4, newRow]
    have := key ((Array.range vs.length).map (z.cells[· % z.cells.size]!)) (by simp)
    simp only [Nat.mul_one] at this
    simp [this]

theorem zeroC_rep {nk : NK} {zero : List D} {z : Value} (hz : zerosOK zero z.cells.toList = true) {n : Nat} {c : Cont} (h : zeroC nk zero n = some c) : ∃ z0, z.cells = #[z0] ∧ ContRep w M mu c (List.replicate n z0) ∧ c.isVar = false ∧ c.len = n ∧ z0.oneCell' = true := by
  unfold zeroC at h
  split at h
  · split at h <;> cases h
    rename_i k k' n hk; subst hk
    generalize hcs : z.cells.toList = cs at hz
    cases cs with
    | nil => simp [zerosOK] at hz
    | cons z0 cs =>
      simp only [zerosOK, Bool.and_eq_true] at hz
      cases cs with
      | cons => simp [zerosOK] at hz
      | nil =>
        have hr := zeroOK_rep (w := w) (M := M) (mu := mu) hz.1
        simp only [Rep] at hr
        subst hr
        exact ⟨_, by apply Array.ext'; simpa using hcs, by simp [ContRep, intsV], rfl, by simp [Cont.len], rfl⟩
  · cases h
    rename_i n
    generalize hcs : z.cells.toList = cs at hz
    cases cs with
    | nil => simp [zerosOK] at hz
    | cons z0 cs =>
      simp only [zerosOK, Bool.and_eq_true] at hz
      cases cs with
      | cons => simp [zerosOK] at hz
      | nil =>
        have hr := zeroOK_rep (w := w) (M := M) (mu := mu) hz.1
        simp only [Rep] at hr
        subst hr
        exact ⟨_, by apply Array.ext'; simpa using hcs, by simp [ContRep, boolsV], rfl, by simp [Cont.len], rfl⟩
  · cases h
    rename_i k k'
    generalize hcs : z.cells.toList = cs at hz
    cases cs with
    | nil => simp [zerosOK] at hz
    | cons z0 cs =>
      simp only [zerosOK, Bool.and_eq_true] at hz
      cases cs with
      | cons => simp [zerosOK] at hz
      | nil =>
        have hr := zeroOK_rep (w := w) (M := M) (mu := mu) hz.1
        simp only [Rep] at hr
        obtain ⟨A, rfl⟩ := hr
        refine ⟨_, by apply Array.ext'; simpa using hcs, ?_, rfl, by simp [Cont.len], rfl⟩
        simp only [ContRep]
        have : SlV w M (intsV k []) (.slice A 0 0) := ⟨A, 0, by simp [intsV], by simp [intsV], .inl (by simp [intsV])⟩
        induction n with
        | zero => simp [All2]
        | succ n ih => simp only [List.replicate_succ]; exact ⟨this, ih⟩
  · cases h

theorem madeCells_get {z0 : Value} {n j : Nat} (h : j < n) : (madeCells #[z0] n)[j]? = some z0 := by
  simp [madeCells, h, Nat.mod_one]

/-- What the second argument of an append yields. -/
theorem srcC_none (h : SR G F w0 M0 w M mu tmps st) {y : D} {v : Value} (hs : srcC st.rows y = some none) (hv : Rep w M mu y v) : ∃ A, v = .slice A 0 0 := by
  unfold srcC at hs
  split at hs
  · simpa only [Rep] using hv
  · split at hs
    · split at hs
      · cases hs
      · obtain ⟨c, _, e⟩ := Option.map_eq_some_iff.1 hs; cases e
    · cases hs
  · split at hs <;> cases hs

theorem src_zero (w : World) {ty e' : TypeId} (hk : P.underlying ty = some (.slice e')) (A : Option Addr) (c : Nat) : Src P 1 ty (.slice A 0 c) 0 [] w := by
  cases A with
  | none => exact Src.ofNil w hk c
  | some ad => exact Src.ofSlice w hk ad 0 c [] (by simp) (by simp) (by simp)

theorem srcC_some (hX : XOK P X) (h : SR G F w0 M0 w M mu tmps st) {y : D} {v : Value} {cy : Cont} (hs : srcC st.rows y = some (some cy)) (hv : Rep w M mu y v) {ty e' : TypeId} (hk : P.underlying ty = some (.slice e')) :
    ∃ cv, ContRep w M mu cy cv ∧ cy.isVar = false ∧ cv.length = cy.len ∧ Src P 1 ty v cy.len cv w ∧ ∃ A c, v = .slice A cy.len c ∧ (cv = [] ∨ ∃ ad, A = some ad ∧ ∀ j, j < cv.length → w.cell? (ad.add j) = cv[j]?) := by
  have fromHeld : ∀ {cv : List Value} {A : Option Addr} {c : Nat}, ContRep w M mu cy cv → cy.isVar = false → (cv = [] ∨ ∃ ad, A = some ad ∧ ∀ j, j < cv.length → w.cell? (ad.add j) = cv[j]?) → v = .slice A cy.len c →
      ∃ cv, ContRep w M mu cy cv ∧ cy.isVar = false ∧ cv.length = cy.len ∧ Src P 1 ty v cy.len cv w ∧ ∃ A c, v = .slice A cy.len c ∧ (cv = [] ∨ ∃ ad, A = some ad ∧ ∀ j, j < cv.length → w.cell? (ad.add j) = cv[j]?) := by
    intro cv A c h1 h2 h3 h4
    have hl := h1.len
    refine ⟨cv, h1, h2, hl, ?_, A, c, h4, h3⟩
    rw [h4]
    rcases h3 with rfl | ⟨ad, rfl, hc⟩
    · rw [← hl]; exact src_zero w hk A c
    · exact Src.ofSlice w hk ad _ c cv (by omega) (fun j u hu => by
        have hj : j < cv.length := by
          rcases Nat.lt_or_ge j cv.length with h | h
          · exact h
          · rw [List.getElem?_eq_none h] at hu; cases hu
        exact (hc j hj).trans hu) h1.one
  unfold srcC at hs
  split at hs
  · cases hs
  · rename_i r off n
    split at hs
    case h_2 => cases hs
    rename_i row hrow
    split at hs
    case isTrue => cases hs
    rename_i hcond
    obtain ⟨c0, hc0, e⟩ := Option.map_eq_some_iff.1 hs
    cases e
    have hle : off + n ≤ row.c.len := by
      rcases Nat.lt_or_ge row.c.len (off + n) with h | h
      · exact absurd (.inr (by omega)) hcond
      · exact h
    simp only [Rep] at hv
    obtain ⟨l', e', hsl⟩ := hv
    obtain ⟨l, e, hh⟩ := h.rows r row hrow
    rw [e] at e'
    cases e'
    cases l' with
    | nowhere =>
      have hc : ContRep w M mu row.c [] := hh
      obtain ⟨rfl, A, rfl⟩ := hsl
      obtain ⟨g1, g2, g3⟩ := hc.subC hle hc0
      exact fromHeld (cv := []) (by simpa using g1) g2 (.inl rfl) (by rw [g3])
    | at_ b base size =>
      obtain ⟨cs, T, cv, h1, h2, h3, h4, h5, h6, h7⟩ := hh
      have hlen := h3.len
      obtain ⟨g1, g2, g3⟩ := h3.subC hle hc0
      have hl2 : ((cv.drop off).take n).length = n := by simp; omega
      rcases hsl with ⟨rfl, _, A, rfl⟩ | ⟨c, rfl, hmc, hsz⟩
      · exact fromHeld g1 g2 (.inl (by simp)) (by rw [g3])
      · refine fromHeld g1 g2 (.inr ⟨_, rfl, fun j hj => ?_⟩) (by rw [g3])
        rw [hl2] at hj
        rw [addr_add_lit, List.getElem?_take, if_pos hj, List.getElem?_drop]
        have := h5 (off + j) (by omega)
        simp only [World.cell?, h1]
        rw [Nat.add_assoc, this]
        simp
  · rename_i hno1 hno2
    split at hs
    case h_2 => cases hs
    rename_i c hc
    cases hs
    obtain ⟨cv, hcr, ⟨A, cap, e, hle, hh⟩, hnv⟩ := SlV.cont hX hv hc
    refine fromHeld (hcr.anyMu hnv) hnv ?_ (by rw [e, hcr.len])
    rcases hh with rfl | ⟨ad, rfl, _, hcell⟩
    · exact .inl rfl
    · exact .inr ⟨ad, rfl, hcell⟩

theorem alloc_keeps (w : World) (o : Obj) : Keeps (fun _ => False) w (w.drew.alloc o) :=
  ⟨rfl, rfl, rfl, by simp, fun b hb _ => Go.RowKit.Below.heap_alloc w.drew o b (by simpa using hb)⟩

/-- A new row behind a growth. -/
theorem SR.grown (h : SR G F w0 M0 w M mu tmps st) (id : Nat) (hpin : ¬ Pinned id) {c : Cont} {cv : List Value} {cs : Array Value} {e : TypeId} (hc : ContRep w M mu c cv) (hv : c.isVar = false) (hl : cv.length ≤ cs.size) (hcs : ∀ j, j < cv.length → cs[j]? = cv[j]?) :
    ∃ M' mu', mu' id = some (.at_ w.heap.size 0 cs.size) ∧ SR G F w0 M0 (w.drew.alloc (.cells cs e)) M' mu' tmps (st.newRow id ⟨true, c⟩) ∧ ∀ r, r ≠ id → mu' r = mu r := by
  have hb : (w.drew.alloc (.cells cs e)).heap[w.heap.size]? = some (.cells cs e (0, 0)) := by
    have := alloc_block w.drew (.cells cs e)
    simpa using this
  obtain ⟨M', mu', e1, h2⟩ := h.alloc id hpin c cs e cv (alloc_keeps w _) hb (fun mu' _ => hc.anyMu hv) hl hcs
  exact ⟨M', mu', e1, h2⟩

theorem lim_bytes {n b : Nat} (h : n ≤ lim) (hb : b ≤ 64) : n * b ≤ 140737488355328 := by
  have : n * b ≤ lim * 64 := Nat.mul_le_mul h hb
  simp only [lim] at this
  omega

theorem append_sound (hX : XOK P X) (h : SR G F w0 M0 w M mu tmps st) {t e ty e' : TypeId} {ei : TI} (hu : P.underlying t = some (.slice e)) (he : X.tt e = some ei) (hk : P.underlying ty = some (.slice e')) {id : Nat} (hpin : ¬ Pinned id) {nk : NK} {x y d : D} {vx vy : Value} {st' : St} {t' : TypeId}
    (hx : Rep w M mu x vx) (hy : Rep w M mu y vy) (ha : appendD X id ei nk x y st = some (d, st')) :
    ∃ v w' M' mu', (Builtin.append_ #[t, ty] t' #[vx, vy]).run P w = .ok v w' ∧ SR G F w0 M0 w' M' mu' tmps st' ∧ Rep w' M' mu' d v ∧ ∀ r, r ≠ id → mu' r = mu r := by
  obtain ⟨ti, z, i1, i2, i3, i4, i5, i6⟩ := (hX.tt e ei he).info
  unfold appendD at ha
  split at ha
  case isFalse => cases ha
  rename_i hsz
  obtain ⟨hsz, hby⟩ := hsz
  have isz : ti.size = 1 := i2.trans hsz
  have zsz : z.cells.size = 1 := i6.trans hsz
  -- growth into a new block
  have grow : ∀ {A : Option Addr} {n c : Nat} {olds news : List Value} {m : Nat} {cN : Cont} {st1 : St}, SR G F w0 M0 w M mu tmps st1 → vx = .slice A n c → (Builtin.firstCells 1 n (.slice A n c)).run P w.drew = .ok olds.toArray w.drew → olds.length = n →
      Src P 1 ty vy m news w → c < n + m → n + m ≤ lim → ContRep w M mu cN (olds ++ news) → cN.isVar = false →
      ∃ v w' M' mu', (Builtin.append_ #[t, ty] t' #[vx, vy]).run P w = .ok v w' ∧ SR G F w0 M0 w' M' mu' tmps (st1.newRow id ⟨true, cN⟩) ∧ Rep w' M' mu' (.rsl id 0 (n + m)) v ∧ ∀ r, r ≠ id → mu' r = mu r := by
    intro A n c olds news m cN st1 hst e1 e2 e3 hs hlt hl hc hv
    have hg := run_append_grow_src (P := P) w t ty t' e ti z hu i1 i4 A n c olds (by rw [isz]; exact e2) vy m news (by rw [isz]; exact hs) hlt (by simp only [lim] at hl; omega) (growslice_fits hlt (by rw [i3]; exact lim_bytes hl hby))
    have hnl : news.length = m := by have := hs.newsLen; omega
    have hcap := grownCap_ge w (n + m) c e
    have hsize : ((olds ++ news).toArray ++ Builtin.zeroCells z.cells (grownCap w (n + m) c e - (n + m))).size = grownCap w (n + m) c e := by
      simp [size_zeroCells, zsz, e3, hnl]; omega
    obtain ⟨M', mu', k1, k2, k9⟩ := hst.grown id hpin (cs := (olds ++ news).toArray ++ Builtin.zeroCells z.cells (grownCap w (n + m) c e - (n + m))) (e := e) hc hv (by rw [hsize]; simp [e3, hnl]; exact hcap) (fun j hj => by
      rw [Array.getElem?_append_left (by simpa using hj)]; simp)
    refine ⟨_, _, M', mu', by rw [e1]; exact hg, k2, ?_, k9⟩
    simp only [Rep]
    exact ⟨_, k1, .inr ⟨_, rfl, hcap, by rw [hsize]; omega⟩⟩
  split at ha
  · cases ha
  · rename_i hs
    obtain ⟨Ay, rfl⟩ := srcC_none h hs hy
    have hsrc := src_zero (P := P) w hk Ay 0
    split at ha
    · cases ha
      simp only [Rep] at hx
      obtain ⟨A, rfl⟩ := hx
      refine ⟨.slice A 0 0, w, M, mu, ?_, h, by simp only [Rep]; exact ⟨A, rfl⟩, fun _ _ => rfl⟩
      exact run_append_nothing w t ty t' e ti hu i1 A 0 0 (Nat.le_refl _) _ (by rw [isz]; exact hsrc)
    · rename_i r off n
      cases ha
      have hx' := hx
      simp only [Rep] at hx
      obtain ⟨l, hl, hsl⟩ := hx
      obtain ⟨A, c, rfl, hnc⟩ : ∃ A c, vx = .slice A n c ∧ n ≤ c := by
        cases l with
        | nowhere => obtain ⟨rfl, A, rfl⟩ := hsl; exact ⟨A, 0, rfl, Nat.le_refl _⟩
        | at_ b base size =>
          rcases hsl with ⟨rfl, _, A, rfl⟩ | ⟨c, rfl, hnc, _⟩
          · exact ⟨A, 0, rfl, Nat.le_refl _⟩
          · exact ⟨_, c, rfl, hnc⟩
      exact ⟨_, w, M, mu, run_append_nothing w t ty t' e ti hu i1 A n c hnc _ (by rw [isz]; exact hsrc), h, hx', fun _ _ => rfl⟩
    · cases ha
  · rename_i cy hs
    obtain ⟨cvy, hcy, hvy, hly, hsrc, _⟩ := srcC_some hX h hs hy hk
    split at ha
    · -- onto nothing
      rename_i k
      split at ha
      case isFalse => cases ha
      rename_i hlim
      cases ha
      simp only [Rep] at hx
      obtain ⟨A, rfl⟩ := hx
      by_cases hm : cy.len = 0
      · have hnil : cvy = [] := List.eq_nil_of_length_eq_zero (by omega)
        subst hnil
        rw [hm] at hsrc ⊢
        obtain ⟨M', mu', k1, k9, k3, _, k2⟩ := h.place (w' := w) id hpin ⟨true, cy⟩ .nowhere (Keeps.refl _ _) (fun b hb => by simp [blockOf] at hb) (fun M' mu' hM _ hid => ⟨_, hid, by
          have hMM : M' = M := by funext b; simp [hM, blockOf]
          rw [hMM]; exact hcy.anyMu hvy⟩)
        refine ⟨.slice A 0 0, w, M', mu', run_append_nothing w t ty t' e ti hu i1 A 0 0 (Nat.le_refl _) _ (by rw [isz]; exact hsrc), k2, ?_, k9⟩
        simp only [Rep]
        exact ⟨_, k1, rfl, A, rfl⟩
      · have := grow (A := A) (n := 0) (c := 0) (olds := []) (m := cy.len) (cN := cy) h rfl (src_zero (P := P) w hk A 0).cellsD rfl hsrc (by omega) (by omega) (by simpa using hcy) hvy
        simpa using this
    · rename_i r off n
      split at ha
      case h_2 => cases ha
      rename_i cx hrow
      split at ha
      case isTrue => cases ha
      rename_i hnv
      have hnv' : cx.isVar = false := by simpa using hnv
      obtain ⟨l, hl, hh⟩ := h.rows r _ hrow
      simp only [Rep] at hx
      obtain ⟨l', hl', hsl⟩ := hx
      rw [hl] at hl'
      cases hl'
      split at ha
      · -- at the end
        rename_i hend
        split at ha
        case isFalse => cases ha
        rename_i hlim
        split at ha
        case h_2 => cases ha
        rename_i c0 hc0
        obtain ⟨cN, happ, e0⟩ := Option.map_eq_some_iff.1 ha
        cases e0
        have hdrop := h.forget r
        cases l with
        | nowhere =>
          have hc : ContRep w M mu cx [] := hh
          have hlen : ([] : List Value).length = cx.len := hc.len
          obtain ⟨rfl, A, rfl⟩ := hsl
          obtain ⟨g1, g2, g3⟩ := hc.subC (by omega) hc0
          have g1' : ContRep w M mu c0 [] := by simpa using g1
          have hcN := g1'.app hcy happ
          have hcNv : cN.isVar = false := by cases c0 <;> cases cy <;> simp [Cont.app] at happ <;> first | (obtain ⟨_, rfl⟩ := happ; rfl) | (subst happ; rfl)
          by_cases hm : cy.len = 0
          · have hnil : cvy = [] := List.eq_nil_of_length_eq_zero (by omega)
            subst hnil
            rw [hm] at hsrc ⊢
            obtain ⟨M', mu', k1, k9, k3, _, k2⟩ := hdrop.place (w' := w) id hpin ⟨true, cN⟩ .nowhere (Keeps.refl _ _) (fun b hb => by simp [blockOf] at hb) (fun M' mu' hM _ hid => ⟨_, hid, by
              have hMM : M' = M := by funext b; simp [hM, blockOf]
              rw [hMM]; exact hcN.anyMu hcNv⟩)
            refine ⟨.slice A 0 0, w, M', mu', run_append_nothing w t ty t' e ti hu i1 A 0 0 (Nat.le_refl _) _ (by rw [isz]; exact hsrc), k2, ?_, k9⟩
            simp only [Rep]
            exact ⟨_, k1, rfl, A, rfl⟩
          · exact grow (A := A) (n := 0) (c := 0) (olds := []) (m := cy.len) (cN := cN) hdrop rfl (src_zero (P := P) w hk A 0).cellsD rfl hsrc (by omega) (by omega) hcN hcNv
        | at_ b base size =>
          obtain ⟨cs, T, cv, f1, f2, f3, f4, f5, f6, f7⟩ := hh
          have hlen : cv.length = cx.len := f3.len
          obtain ⟨g1, g2, g3⟩ := ContRep.subC (c := cx) f3 (by omega) hc0
          have hcN := g1.app hcy happ
          have hcNv : cN.isVar = false := by cases c0 <;> cases cy <;> simp [Cont.app] at happ <;> first | (obtain ⟨_, rfl⟩ := happ; rfl) | (subst happ; rfl) | (cases g2)
          have holen : ((cv.drop off).take n).length = n := by simp; omega
          rcases hsl with ⟨rfl, hoff, A, rfl⟩ | ⟨c, rfl, hnc, hsize⟩
          · -- nothing there, no room
            by_cases hm : cy.len = 0
            · have hnil : cvy = [] := List.eq_nil_of_length_eq_zero (by omega)
              subst hnil
              rw [hm] at hsrc ⊢
              have hcN' : ContRep w M mu cN [] := by simpa using hcN
              obtain ⟨M', mu', k1, k9, k3, _, k2⟩ := hdrop.place (w' := w) id hpin ⟨true, cN⟩ .nowhere (Keeps.refl _ _) (fun b hb => by simp [blockOf] at hb) (fun M' mu' hM _ hid => ⟨_, hid, by
                have hMM : M' = M := by funext b; simp [hM, blockOf]
                rw [hMM]; exact hcN'.anyMu hcNv⟩)
              refine ⟨.slice A 0 0, w, M', mu', run_append_nothing w t ty t' e ti hu i1 A 0 0 (Nat.le_refl _) _ (by rw [isz]; exact hsrc), k2, ?_, k9⟩
              simp only [Rep]
              exact ⟨_, k1, rfl, A, rfl⟩
            · exact grow (A := A) (n := 0) (c := 0) (olds := (cv.drop off).take 0) (m := cy.len) (cN := cN) hdrop rfl (by simpa using (src_zero (P := P) w hk A 0).cellsD) (by simp) hsrc (by omega) (by omega) hcN hcNv
          · have hcell : ∀ j, j < n → w.cell? ⟨b, base + off + j, none⟩ = (cv.drop off)[j]? := fun j hj => by
              rw [List.getElem?_drop]
              have := f5 (off + j) (by omega)
              simp only [World.cell?, f1]
              rw [Nat.add_assoc, this]
              simp
            by_cases hroom : n + cy.len ≤ c
            · -- in place
              have hr := run_append_room_src (P := P) w t ty t' e ti hu i1 b (base + off) n c vy cy.len cvy (by rw [isz]; exact hsrc) hroom (fun j hj => cell_some f1 (by rw [isz]; omega)) (fun j hj => frozen_no f1 _ _)
              rw [isz, Nat.mul_one] at hr
              obtain ⟨cs', q1, q2, q3, q4⟩ := setCells_heap b cvy (base + off + n) w cs f1 (by omega)
              obtain ⟨hMb, hFb⟩ := f6 rfl
              obtain ⟨M', mu', k1, k9, k3, _, k2⟩ := hdrop.place (w' := w.setCells b (base + off + n) cvy) id hpin ⟨true, cN⟩ (.at_ b (base + off) (size - off)) ((setCells_keeps b cvy (base + off + n) w).mono fun x _ e => by simp [blockOf, e])
                (fun x hx => .inr (by
                  simp [blockOf] at hx
                  subst hx
                  refine ⟨hMb, hFb, fun j rj _ hj hw hbj => ?_⟩
                  simp only [St.forget] at hj
                  split at hj
                  · cases hj
                  · rename_i hjr
                    exact h.apart j r rj _ b hjr hj hrow hw rfl hbj (by rw [hl]; rfl)))
                (fun M' mu' hM _ hid => by
                  have hMM : M' = M := by
                    funext x
                    simp only [hM, blockOf, eq_iff_iff]
                    exact ⟨fun h => by rcases h with h | ⟨_, h⟩; exact h; simp at h; exact h ▸ hMb, .inl⟩
                  rw [hMM]
                  refine ⟨_, hid, cs', T, (cv.drop off).take n ++ cvy, q1, by omega, ?_, ?_, fun j hj => ?_, fun _ => ⟨hMb, hFb⟩, fun hf => Bool.noConfusion hf⟩
                  · exact ContRep.keeps ((setCells_keeps b cvy (base + off + n) w).mono fun x _ e => e ▸ hMb) (fun _ _ h => h) (fun _ _ h => h) (hcN.anyMu hcNv)
                  · simp only [List.length_append, holen, hly]; omega
                  · simp only [List.length_append, holen, hly] at hj
                    by_cases hjn : j < n
                    · rw [q4 _ (by omega), List.getElem?_append_left (by rw [holen]; exact hjn), List.getElem?_take, if_pos hjn, List.getElem?_drop, Nat.add_assoc]
                      exact f5 (off + j) (by omega)
                    · rw [List.getElem?_append_right (by rw [holen]; omega), holen]
                      have := q3 (j - n) (by omega)
                      rwa [show base + off + n + (j - n) = base + off + j by omega] at this)
              refine ⟨_, _, M', mu', hr, k2, ?_, k9⟩
              simp only [Rep]
              exact ⟨_, k1, .inr ⟨c, rfl, hroom, by omega⟩⟩
            · refine grow (A := some ⟨b, base + off, none⟩) (n := n) (c := c) (olds := (cv.drop off).take n) (m := cy.len) (cN := cN) hdrop rfl ?_ holen hsrc (by omega) (by omega) hcN hcNv
              have := run_firstCells_some (P := P) w.drew 1 n ⟨b, base + off, none⟩ n c ((cv.drop off).take n) (by rw [holen]; omega) (fun j u hju => by
                have hj : j < n := by
                  rcases Nat.lt_or_ge j n with h | h
                  · exact h
                  · rw [List.getElem?_eq_none (by rw [holen]; exact h)] at hju; cases hju
                rw [addr_add_lit]
                have h2 := hcell j hj
                rw [List.getElem?_take, if_pos hj] at hju
                rw [hju] at h2
                simpa using h2)
              exact this
      · -- in the midst
        rename_i hend
        split at ha
        case isFalse => cases ha
        rename_i hfit
        obtain ⟨cN, hover, e0⟩ := Option.map_eq_some_iff.1 ha
        cases e0
        cases l with
        | nowhere =>
          have hc : ContRep w M mu cx [] := hh
          have hlen : ([] : List Value).length = cx.len := hc.len
          obtain ⟨rfl, A, rfl⟩ := hsl
          simp at hlen
          omega
        | at_ b base size =>
          obtain ⟨cs, T, cv, f1, f2, f3, f4, f5, f6, f7⟩ := hh
          have hlen : cv.length = cx.len := f3.len
          rcases hsl with ⟨rfl, hoff, A, rfl⟩ | ⟨c, rfl, hnc, hsize⟩
          · omega
          · have hroom : n + cy.len ≤ c := by omega
            have hr := run_append_room_src (P := P) w t ty t' e ti hu i1 b (base + off) n c vy cy.len cvy (by rw [isz]; exact hsrc) hroom (fun j hj => cell_some f1 (by rw [isz]; omega)) (fun j hj => frozen_no f1 _ _)
            rw [isz, Nat.mul_one] at hr
            obtain ⟨cs', q1, q2, q3, q4⟩ := setCells_heap b cvy (base + off + n) w cs f1 (by omega)
            have hov := f3.over hcy hover
            have hw := h.write hrow rfl hl (setCells_keeps b cvy (base + off + n) w) hov q1 (by omega) (by simp [hly]; omega) (fun j hj => by
              simp only [List.length_append, List.length_take, List.length_drop] at hj
              by_cases h1 : j < off + n
              · rw [q4 _ (by omega), List.append_assoc, List.getElem?_append_left (by simp; omega), List.getElem?_take, if_pos h1]
                exact f5 j (by omega)
              · by_cases h2 : j < off + n + cvy.length
                · rw [List.append_assoc, List.getElem?_append_right (by simp; omega), List.getElem?_append_left (by simp; omega)]
                  have := q3 (j - (off + n)) (by omega)
                  rw [show base + off + n + (j - (off + n)) = base + j by omega] at this
                  rw [this]
                  congr 1
                  simp; omega
                · rw [q4 _ (by omega), List.getElem?_append_right (by simp; omega), List.getElem?_drop, f5 j (by omega)]
                  congr 1
                  simp; omega)
            refine ⟨_, _, M, mu, hr, hw, ?_, fun _ _ => rfl⟩
            simp only [Rep]
            exact ⟨_, hl, .inr ⟨c, rfl, hroom, hsize⟩⟩
    · cases ha

end
end Go.PR
