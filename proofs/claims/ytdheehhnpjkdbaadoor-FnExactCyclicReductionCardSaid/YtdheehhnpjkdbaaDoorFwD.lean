/- The evaluator's reading operations are the model's. -/
import Derived.Test.YtdheehhnpjkdbaaDoorFwC
set_option linter.unusedVariables false
set_option linter.unusedSimpArgs false
namespace Go.PR
open Go

def KindOK (P : Program) (t : TypeId) : TK → Prop
  | .int k => P.underlying t = some (.int k)
  | .bool => P.underlying t = some .bool
  | .str => P.underlying t = some .string
  | .slice e => P.underlying t = some (.slice e)
  | .struct fs => ∃ fields : Array Field, P.underlying t = some (.struct fields) ∧ fields.toList.map (fun f => (f.offset, f.type)) = fs
  | .array n e => P.underlying t = some (.array n e)
  | .map k e => P.underlying t = some (.map k e)
  | .other => ∃ d, P.underlying t = some d ∧ (match d with | .struct _ | .array _ _ => true | _ => false) = false

def zeroOK : D → Value → Bool
  | .int k n, .int k' n' => k == k' && n == n'
  | .bool b, .bool b' => b == b'
  | .str s, .string s' => s.data.toList == s'.data.toList
  | .nil _, .slice none 0 0 => true
  | .any, .pointer _ => true
  | .any, .nilFunc => true
  | .any, .map _ => true
  | .any, .nilIface => true
  | _, _ => false

def zerosOK : List D → List Value → Bool
  | [], [] => true
  | d :: ds, v :: vs => zeroOK d v && zerosOK ds vs
  | _, _ => false

structure TIok (P : Program) (t : TypeId) (i : TI) : Prop where
  info : ∃ ti z, P.info? t = some ti ∧ ti.size = i.size ∧ ti.bytes = i.bytes ∧ ti.zero = some z ∧ zerosOK i.zero z.cells.toList = true ∧ z.cells.size = i.size
  kind : KindOK P t i.kind

structure XOK (P : Program) (X : Ctx) : Prop where
  tt : ∀ t i, X.tt t = some i → TIok P t i
  ft : ∀ f fn, X.ft f = some fn → P.funcs[f]? = some fn ∧ (fn.name == "runtime.NumGoroutine") = false ∧ fn.body.isNone = false
  mixed : P.follows .mixedOrders = true

section
variable {P : Program} {X : Ctx} {F : Nat → Prop} {w0 w : World} {M0 : Entry} {M : Nat → Prop} {mu : Nat → Option Loc} {a : Act} {st : St}

theorem zeroOK_rep {d : D} {v : Value} (h : zeroOK d v = true) : Rep w M mu d v := by
  unfold zeroOK at h
  split at h <;> try simp only [Rep]
  · simp_all
  · simp_all
  · rename_i s s'
    cases s; cases s'; simp_all
  · exact ⟨none, rfl⟩
  · cases h

theorem zerosOK_rep : ∀ {ds : List D} {vs : List Value}, zerosOK ds vs = true → RepL w M mu ds vs
  | [], [], _ => by simp only [RepL]
  | [], _ :: _, h => by simp [zerosOK] at h
  | _ :: _, [], h => by simp [zerosOK] at h
  | d :: ds, v :: vs, h => by
    simp only [zerosOK, Bool.and_eq_true] at h
    simp only [RepL]
    exact ⟨zeroOK_rep h.1, zerosOK_rep h.2⟩

theorem zerosOK_one : ∀ {ds : List D} {vs : List Value}, zerosOK ds vs = true → ∀ u ∈ vs, u.oneCell' = true
  | [], [], _ => by simp
  | [], _ :: _, h => by simp [zerosOK] at h
  | _ :: _, [], h => by simp [zerosOK] at h
  | d :: ds, v :: vs, h => by
    simp only [zerosOK, Bool.and_eq_true] at h
    intro u hu
    rcases List.mem_cons.1 hu with rfl | hu
    · have := h.1; cases d <;> cases u <;> first | rfl | (simp [zeroOK] at this)
    · exact zerosOK_one h.2 u hu

theorem cst_rep (v : Value) : Rep w M mu (cst v) v := by
  unfold cst
  split <;> simp only [Rep]
  exact ⟨_, rfl⟩

theorem ev_rep (h : SR X.glob F w0 M0 w M mu a.tmps st) (x : Operand) : Rep w M mu (ev X st x) (a.eval x) := by
  cases x with
  | tmp t => exact h.get t
  | const v => exact cst_rep v
  | global g =>
    simp only [ev, Act.eval]
    cases e : X.glob g with
    | none => simp only [Option.getD, Rep]
    | some d => exact Rep.keeps (Keeps.refl _ _) (fun _ _ h => h) (fun r l e => by simp [mu0] at e) d (h.glob g d e)
  | func f => simp only [ev, Act.eval, Rep]; exact ⟨[], rfl, by simp only [RepL]⟩

theorem ev_repL (h : SR X.glob F w0 M0 w M mu a.tmps st) : ∀ (xs : List Operand), RepL w M mu (xs.map (ev X st)) (xs.map a.eval)
  | [] => by simp only [List.map, RepL]
  | x :: xs => by simp only [List.map, RepL]; exact ⟨ev_rep h x, ev_repL h xs⟩

theorem isAgg_run (hX : XOK P X) {t : TypeId} {i : TI} (h : X.tt t = some i) (w : World) : (isAgg t).run P w = .ok i.agg w := by
  have hk := (hX.tt t i h).kind
  unfold TI.agg
  cases e : i.kind with
  | struct fs => rw [e] at hk; obtain ⟨fields, hu, _⟩ := hk; simp [isAgg, run_underlying hu]
  | other => rw [e] at hk; obtain ⟨d, hu, hd⟩ := hk; simp only [isAgg, Sem.run_bind, run_underlying hu, Result.andThen_ok]; cases d <;> simp_all
  | _ => rw [e] at hk; simp [isAgg, run_underlying hk]

theorem sizeOf_run (hX : XOK P X) {t : TypeId} {i : TI} (h : X.tt t = some i) (w : World) : (sizeOf t).run P w = .ok i.size w := by
  obtain ⟨ti, z, h1, h2, _⟩ := (hX.tt t i h).info
  simp [sizeOf, typeInfo, h1, h2]

theorem held_cell {cv : List Value} {ad : Addr} (h : Held w M (some ad) cv) {j : Nat} {u : Value} (hu : cv[j]? = some u) : w.cell? (ad.add j) = some u ∧ ¬ M ad.block := by
  rcases h with rfl | ⟨ad', e, hn, hc⟩
  · simp at hu
  · cases e
    have hj : j < cv.length := by
      rcases Nat.lt_or_ge j cv.length with h | h
      · exact h
      · rw [List.getElem?_eq_none h] at hu; cases hu
    exact ⟨(hc j hj).trans hu, hn⟩

/-- Cells that lie one behind the other from an address on. -/
def cellsAt (w : World) (ad : Addr) (cv : List Value) : Prop := ∀ j u, cv[j]? = some u → w.cell? (ad.add j) = some u

theorem loadCells_run (P : Program) {ad : Addr} {cv : List Value} (h : cellsAt w ad cv) (n : Nat) (hn : n ≤ cv.length) : (loadCells ad n).run P w = .ok (cv.take n).toArray w := by
  rw [run_loadCells w ad n (fun j => cv.getD j undef) (fun j hj => h j _ (by simp [List.getD, List.getElem?_eq_getElem (Nat.lt_of_lt_of_le hj hn)]))]
  congr 1
  apply Array.ext'
  apply List.ext_getElem?
  intro k
  by_cases hk : k < n
  · have : k < cv.length := by omega
    simp [hk, List.getElem?_eq_getElem this, this]
  · simp [hk]; omega

theorem load_run (hX : XOK P X) {t : TypeId} {i : TI} (ht : X.tt t = some i) {ad : Addr} {cells : List D} {cv : List Value} {d : D} {mu' : Nat → Option Loc} (hc : cellsAt w ad cv) (hr : RepL w M mu' cells cv) (hd : loadL i cells = some d) :
    ∃ v, (loadVar t ad).run P w = .ok v w ∧ Rep w M mu' d v := by
  unfold loadL at hd
  split at hd
  · rename_i hagg
    split at hd
    · rename_i hsz
      cases hd
      refine ⟨.agg (cv.take i.size).toArray, ?_, ?_⟩
      · simp only [loadVar, Sem.run_bind, isAgg_run hX ht, Result.andThen_ok, hagg, if_true, sizeOf_run hX ht]
        rw [loadCells_run P hc _ (by rw [← hr.length]; exact hsz)]
        rfl
      · simp only [Rep]; exact ⟨_, rfl, hr.take _⟩
    · cases hd
  · rename_i hagg
    split at hd
    · obtain ⟨v, hv, hrv⟩ := hr.get 0 d hd
      refine ⟨v, ?_, hrv⟩
      have hcell := hc 0 v hv
      have h0 : ad.add 0 = ad := rfl
      rw [h0] at hcell
      simp [loadVar, isAgg_run hX ht, hagg, hcell]
    · cases hd

/-- What a row's cells hold. -/
theorem row_cells (h : SR X.glob F w0 M0 w M mu a.tmps st) {r : Nat} {row : Row} (hr : st.rows r = some row) :
    ∃ l cv, mu r = some l ∧ ContRep w M mu row.c cv ∧ (∀ b base size, l = .at_ b base size → cv.length ≤ size ∧ ∀ j u, cv[j]? = some u → w.cell? ⟨b, base + j, none⟩ = some u) ∧ (l = .nowhere → cv = []) ∧
      (row.wr = false → ∀ b base size, l = .at_ b base size → ¬ M b) := by
  obtain ⟨l, e, hh⟩ := h.rows r row hr
  cases l with
  | nowhere => exact ⟨_, [], e, hh, (fun _ _ _ h => by cases h), (fun _ => rfl), (fun _ _ _ _ h => by cases h)⟩
  | at_ b base size =>
    obtain ⟨cs, T, cv, h1, h2, h3, h4, h5, h6, h7⟩ := hh
    refine ⟨_, cv, e, h3, fun b' base' size' h => ?_, (fun h => by cases h), fun hw b' base' size' h => ?_⟩
    · cases h
      refine ⟨h4, fun j u hu => ?_⟩
      have hj : j < cv.length := by
        rcases Nat.lt_or_ge j cv.length with h | h
        · exact h
        · rw [List.getElem?_eq_none h] at hu; cases hu
      simp [World.cell?, h1, h5 j hj, hu]
    · cases h; exact h7 hw

theorem ContRep.len {c : Cont} {cv : List Value} (h : ContRep w M mu c cv) : cv.length = c.len := by
  cases c with
  | ints k xs => simp only [ContRep] at h; subst h; simp [Cont.len, intsV]
  | bools xs => simp only [ContRep] at h; subst h; simp [Cont.len, boolsV]
  | ints2 k xss => simp only [ContRep] at h; simp [Cont.len, All2.length h]
  | gen els => simp [Cont.len, RepL.length h.1]
  | var cells => simp [Cont.len, RepL.length h.1]

theorem All2.get {α β : Type} {R : α → β → Prop} : ∀ {as : List α} {bs : List β}, All2 R as bs → ∀ (i : Nat) (x : α), as[i]? = some x → ∃ y, bs[i]? = some y ∧ R x y
  | [], [], _, i, x, e => by simp at e
  | x' :: as, y :: bs, h, 0, x, e => by simp at e; subst e; exact ⟨y, by simp, h.1⟩
  | x' :: as, y :: bs, h, i + 1, x, e => by simpa using All2.get h.2 i x (by simpa using e)

/-- An element, told. -/
theorem ContRep.get {c : Cont} {cv : List Value} (h : ContRep w M mu c cv) {i : Nat} {d : D} (hd : c.get i = some d) : ∃ v, cv[i]? = some v ∧ Rep w M mu d v ∧ (c.isVar = false → Rep w M mu0 d v) := by
  cases c with
  | ints k xs =>
    simp only [ContRep] at h; subst h
    simp only [Cont.get] at hd
    split at hd
    · rename_i hi; cases hd
      refine ⟨.int k (xs.getD i 0), ?_, by simp only [Rep], fun _ => by simp only [Rep]⟩
      simp [intsV, List.getElem?_eq_getElem hi, List.getD]
    · cases hd
  | bools xs =>
    simp only [ContRep] at h; subst h
    simp only [Cont.get] at hd
    split at hd
    · rename_i hi; cases hd
      refine ⟨.bool (xs.getD i false), ?_, by simp only [Rep], fun _ => by simp only [Rep]⟩
      simp [boolsV, List.getElem?_eq_getElem hi, List.getD]
    · cases hd
  | ints2 k xss =>
    simp only [ContRep] at h
    simp only [Cont.get] at hd
    split at hd
    · rename_i hi; cases hd
      obtain ⟨v, hv, hs⟩ := h.get i xss[i] (List.getElem?_eq_getElem hi)
      refine ⟨v, hv, ?_, fun _ => ?_⟩ <;> (simp only [Rep, List.getD, List.getElem?_eq_getElem hi, Option.getD]; exact hs)
    · cases hd
  | gen els =>
    obtain ⟨v, hv, hr⟩ := h.1.get i d hd
    exact ⟨v, hv, Rep.keeps (Keeps.refl _ _) (fun _ _ h => h) (fun r l e => by simp [mu0] at e) d hr, fun _ => hr⟩
  | var cells =>
    obtain ⟨v, hv, hr⟩ := h.1.get i d hd
    exact ⟨v, hv, hr, fun h => by cases h⟩

theorem addr_add_lit (b o j : Nat) : (⟨b, o, none⟩ : Addr).add j = ⟨b, o + j, none⟩ := by
  unfold Addr.add; split <;> simp_all

theorem loadD_sound (hX : XOK P X) (h : SR X.glob F w0 M0 w M mu a.tmps st) {t : TypeId} {i : TI} (ht : X.tt t = some i) {x d : D} {v : Value} (hx : Rep w M mu x v) (hd : loadD i st.rows x = some d) :
    ∃ u, (Instr.loadAt t v).run P w = .ok u w ∧ Rep w M mu d u := by
  cases x with
  | pim cells =>
    simp only [Rep] at hx
    obtain ⟨ad, cv, rfl, hr, hh⟩ := hx
    simp only [loadD] at hd
    have hc : cellsAt w ad cv := fun j u hu => (held_cell hh hu).1
    obtain ⟨u, h1, h2⟩ := load_run hX ht hc hr hd
    refine ⟨u, ?_, Rep.keeps (Keeps.refl _ _) (fun _ _ h => h) (fun r l e => by simp [mu0] at e) d h2⟩
    simp [Instr.loadAt, Instr.sureAddr, h1]
  | ptr r off =>
    simp only [Rep] at hx
    obtain ⟨l, hl, hv⟩ := hx
    simp only [loadD] at hd
    split at hd
    · rename_i wr cells hrow
      obtain ⟨l', cv, e', hc, hat, hno, _⟩ := row_cells h hrow
      rw [hl] at e'
      cases e'
      cases l with
      | nowhere => simp [Loc.cell] at hv
      | at_ b base size =>
        simp only [Loc.cell] at hv
        subst hv
        obtain ⟨hle, hcell⟩ := hat b base size rfl
        have hcells : cellsAt w ⟨b, base + off, none⟩ (cv.drop off) := fun j u hu => by
          rw [addr_add_lit, Nat.add_assoc]
          exact hcell _ u (by simpa [List.getElem?_drop] using hu)
        obtain ⟨u, h1, h2⟩ := load_run hX ht hcells (hc.1.drop off) hd
        exact ⟨u, by simp [Instr.loadAt, Instr.sureAddr, h1], h2⟩
    · cases hd
  | pel r j =>
    simp only [Rep] at hx
    obtain ⟨l, hl, hv⟩ := hx
    simp only [loadD] at hd
    split at hd
    · rename_i row hrow
      split at hd
      · cases hd
      · rename_i hna
        split at hd
        · rename_i hsz
          obtain ⟨l', cv, e', hc, hat, hno, _⟩ := row_cells h hrow
          rw [hl] at e'
          cases e'
          cases l with
          | nowhere => simp [Loc.cell] at hv
          | at_ b base size =>
            simp only [Loc.cell] at hv
            subst hv
            obtain ⟨hle, hcell⟩ := hat b base size rfl
            obtain ⟨u, hu, hr, _⟩ := hc.get hd
            have hagg : i.agg = false := by cases e : i.agg <;> simp_all
            refine ⟨u, ?_, hr⟩
            have := hcell j u hu
            simp [Instr.loadAt, Instr.sureAddr, loadVar, isAgg_run hX ht, hagg, this]
        · cases hd
    · cases hd
  | _ => simp [loadD] at hd

end
end Go.PR
