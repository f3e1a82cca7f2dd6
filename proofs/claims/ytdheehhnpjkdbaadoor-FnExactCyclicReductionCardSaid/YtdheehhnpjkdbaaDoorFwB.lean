/- The state of an activation (St): what is known of its temporaries and of the rows that it may write; and when the model's machine is so (SR). -/
import Derived.Test.YtdheehhnpjkdbaaDoorFwA
set_option linter.unusedVariables false
set_option linter.unusedSimpArgs false
namespace Go.PR
open Go

inductive Cont where
  | ints (k : IntKind) (xs : List Int)
  | bools (xs : List Bool)
  | ints2 (k : IntKind) (xss : List (List Int))
  | gen (els : List D)
  | var (cells : List D)

structure Row where
  wr : Bool
  c : Cont

structure St where
  env : List D
  rows : Nat → Option Row

def ContRep (w : World) (M : Nat → Prop) (mu : Nat → Option Loc) : Cont → List Value → Prop
  | .ints k xs, cv => cv = intsV k xs
  | .bools xs, cv => cv = boolsV xs
  | .ints2 k xss, cv => All2 (fun xs u => SlV w M (intsV k xs) u) xss cv
  | .gen els, cv => RepL w M mu0 els cv ∧ ∀ u ∈ cv, u.oneCell' = true
  | .var cells, cv => RepL w M mu cells cv ∧ ∀ u ∈ cv, u.oneCell' = true

def Cont.ren (f : Nat → Option Nat) : Cont → Cont
  | .var cells => .var (D.renL f cells)
  | .ints k xs => .ints k xs
  | .bools xs => .bools xs
  | .ints2 k xss => .ints2 k xss
  | .gen els => .gen els

def Row.ren (f : Nat → Option Nat) (r : Row) : Row := ⟨r.wr, r.c.ren f⟩

theorem ContRep.keeps {w w' : World} {M M' : Nat → Prop} {mu mu' : Nat → Option Loc} (hk : Keeps M w w') (hm : ∀ b, b < w.heap.size → M' b → M b) (hu : ∀ r l, mu r = some l → mu' r = some l) {c : Cont} {cv : List Value}
    (h : ContRep w M mu c cv) : ContRep w' M' mu' c cv := by
  cases c with
  | ints k xs => exact h
  | bools xs => exact h
  | ints2 k xss => exact All2.imp (fun _ _ h => h.keeps hk hm) h
  | gen els => exact ⟨RepL.keeps hk hm (fun _ _ h => h) els h.1, h.2⟩
  | var cells => exact ⟨RepL.keeps hk hm hu cells h.1, h.2⟩

theorem ContRep.ren {w : World} {M : Nat → Prop} {mu mu' : Nat → Option Loc} {f : Nat → Option Nat} (hf : ∀ r i, f r = some i → mu' i = mu r) {c : Cont} {cv : List Value} (h : ContRep w M mu c cv) : ContRep w M mu' (c.ren f) cv := by
  cases c with
  | ints k xs => exact h
  | bools xs => exact h
  | ints2 k xss => exact h
  | gen els => exact h
  | var cells => exact ⟨RepL.ren hf cells h.1, h.2⟩

theorem ContRep.one {w : World} {M : Nat → Prop} {mu : Nat → Option Loc} {c : Cont} {cv : List Value} (h : ContRep w M mu c cv) : ∀ u ∈ cv, u.oneCell' = true := by
  cases c with
  | ints k xs => simp only [ContRep] at h; subst h; intro u hu; obtain ⟨x, _, rfl⟩ := List.mem_map.1 hu; rfl
  | bools xs => simp only [ContRep] at h; subst h; intro u hu; obtain ⟨x, _, rfl⟩ := List.mem_map.1 hu; rfl
  | ints2 k xss =>
    simp only [ContRep] at h
    have : ∀ (xss : List (List Int)) (cv : List Value), All2 (fun xs u => SlV w M (intsV k xs) u) xss cv → ∀ u ∈ cv, u.oneCell' = true := by
      intro xss
      induction xss with
      | nil => intro cv h; cases cv with | nil => simp | cons => simp [All2] at h
      | cons x xss ih =>
        intro cv h
        cases cv with
        | nil => simp
        | cons v cv =>
          intro u hu
          rcases List.mem_cons.1 hu with rfl | hu
          · obtain ⟨A, c, e, _⟩ := h.1; rw [e]; rfl
          · exact ih cv h.2 u hu
    exact this xss cv h
  | gen els => exact h.2
  | var cells => exact h.2

/-- A row lies where mu says, and holds what is told. F: the blocks that this activation may write. -/
def RowOK (F : Nat → Prop) (w : World) (M : Nat → Prop) (mu : Nat → Option Loc) (id : Nat) (row : Row) : Prop :=
  ∃ l, mu id = some l ∧ match l with
    | .nowhere => ContRep w M mu row.c []
    | .at_ b base size => ∃ cs T cv, w.heap[b]? = some (.cells cs T (0, 0)) ∧ base + size = cs.size ∧ ContRep w M mu row.c cv ∧ cv.length ≤ size ∧
        (∀ j, j < cv.length → cs[base + j]? = cv[j]?) ∧ (row.wr = true → M b ∧ F b) ∧ (row.wr = false → ¬ M b)

def blockOf : Option Loc → Option Nat
  | some (.at_ b _ _) => some b
  | _ => none

/-- The rows that the caller handed over bear numbers from PB on, below XB. -/
def PB : Nat := 500000
def XB : Nat := 600000
def Pinned (i : Nat) : Prop := PB ≤ i ∧ i < XB

/-- What held when the activation began. -/
structure Entry where
  M : Nat → Prop
  mu : Nat → Option Loc

structure SR (G : Nat → Option D) (F : Nat → Prop) (w0 : World) (M0 : Entry) (w : World) (M : Nat → Prop) (mu : Nat → Option Loc) (tmps : Array Value) (st : St) : Prop where
  env : RepL w M mu st.env tmps.toList
  rows : ∀ id row, st.rows id = some row → RowOK F w M mu id row
  apart : ∀ i j ri rj b, i ≠ j → st.rows i = some ri → st.rows j = some rj → ri.wr = true → rj.wr = true → blockOf (mu i) = some b → blockOf (mu j) = some b → False
  keeps : Keeps F w0 w
  m1 : ∀ b, b < w0.heap.size → M b → M0.M b
  m2 : ∀ b, M0.M b → ¬ F b → M b
  mlt : ∀ b, M b → b < w.heap.size
  fr : ∀ b, w0.heap.size ≤ b → F b
  glob : ∀ g d, G g = some d → Rep w M mu0 d (.pointer (some ⟨g, 0, none⟩))
  pin : ∀ i, Pinned i → mu i = M0.mu i

theorem RowOK.keeps {F : Nat → Prop} {w w' : World} {M M' : Nat → Prop} {mu mu' : Nat → Option Loc} {id : Nat} {row : Row} (h : RowOK F w M mu id row) (hk : Keeps M w w') (hm : ∀ b, b < w.heap.size → M' b → M b)
    (hu : ∀ r l, mu r = some l → mu' r = some l) (hb : ∀ b, blockOf (mu id) = some b → row.wr = true → w'.heap[b]? = w.heap[b]? ∧ M' b) : RowOK F w' M' mu' id row := by
  obtain ⟨l, e, h⟩ := h
  refine ⟨l, hu _ _ e, ?_⟩
  cases l with
  | nowhere => exact h.keeps hk hm hu
  | at_ b base size =>
    obtain ⟨cs, T, cv, h1, h2, h3, h4, h5, h6, h7⟩ := h
    have hlt : b < w.heap.size := (Array.getElem?_eq_some_iff.1 h1).1
    cases hmu : row.wr with
    | true =>
      obtain ⟨hb1, hb2⟩ := hb b (by rw [e]; rfl) hmu
      exact ⟨cs, T, cv, hb1.trans h1, h2, h3.keeps hk hm hu, h4, h5, fun _ => ⟨hb2, (h6 hmu).2⟩, fun hf => Bool.noConfusion hf⟩
    | false =>
      exact ⟨cs, T, cv, (hk.block b hlt (h7 hmu)).trans h1, h2, h3.keeps hk hm hu, h4, h5, (fun hf => Bool.noConfusion hf), fun _ hM => h7 hmu (hm b hlt hM)⟩

theorem RowOK.ren {F : Nat → Prop} {w : World} {M : Nat → Prop} {mu mu' : Nat → Option Loc} {id id' : Nat} {row : Row} {f : Nat → Option Nat} (h : RowOK F w M mu id row) (hf : ∀ r i, f r = some i → mu' i = mu r) (hid : mu' id' = mu id) : RowOK F w M mu' id' (row.ren f) := by
  obtain ⟨l, e, h⟩ := h
  refine ⟨l, hid.trans e, ?_⟩
  cases l with
  | nowhere => exact h.ren hf
  | at_ b base size =>
    obtain ⟨cs, T, cv, h1, h2, h3, h4, h5, h6, h7⟩ := h
    exact ⟨cs, T, cv, h1, h2, h3.ren hf, h4, h5, h6, h7⟩

section
variable {G : Nat → Option D} {F : Nat → Prop} {w0 w w' : World} {M0 : Entry} {M : Nat → Prop} {mu : Nat → Option Loc} {tmps : Array Value} {st : St}

/-- The world goes on and nothing turns (a draw). -/
theorem SR.world (h : SR G F w0 M0 w M mu tmps st) (hk : Keeps (fun _ => False) w w') : SR G F w0 M0 w' M mu tmps st where
  env := RepL.keeps (hk.mono fun _ _ h => h.elim) (fun _ _ h => h) (fun _ _ h => h) _ h.env
  rows := fun id row hr => (h.rows id row hr).keeps (hk.mono fun _ _ h => h.elim) (fun _ _ h => h) (fun _ _ h => h) fun b hb hm => by
    obtain ⟨l, e, hh⟩ := h.rows id row hr
    rw [e] at hb
    cases l with
    | nowhere => simp [blockOf] at hb
    | at_ b' base size =>
      simp [blockOf] at hb
      subst hb
      obtain ⟨cs, T, cv, h1, h2, h3, h4, h5, h6, h7⟩ := hh
      exact ⟨hk.block _ (Array.getElem?_eq_some_iff.1 h1).1 (fun h => h), (h6 hm).1⟩
  apart := h.apart
  keeps := h.keeps.trans (hk.mono fun _ _ h => h.elim)
  m1 := h.m1
  m2 := h.m2
  mlt := fun b hb => Nat.lt_of_lt_of_le (h.mlt b hb) hk.size
  fr := h.fr
  glob := fun g d hg => Rep.keeps (hk.mono fun _ _ h => h.elim) (fun _ _ h => h) (fun _ _ h => h) d (h.glob g d hg)
  pin := h.pin

theorem toList_set (a : Array Value) (t : Nat) (v : Value) : (a.setIfInBounds t v).toList = a.toList.set t v := by simp

/-- A temporary is written. -/
theorem SR.put (h : SR G F w0 M0 w M mu tmps st) {d : D} {v : Value} (hd : Rep w M mu d v) (t : Nat) : SR G F w0 M0 w M mu (tmps.setIfInBounds t v) { st with env := st.env.set t d } :=
  { h with env := by rw [toList_set]; exact RepL.set hd t h.env }

/-- What is known is forgotten or renumbered. -/
theorem SR.get (h : SR G F w0 M0 w M mu tmps st) (t : Nat) : Rep w M mu (st.env.getD t .any) (tmps.getD t undef) := by
  by_cases ht : t < st.env.length
  · have e : st.env[t]? = some st.env[t] := List.getElem?_eq_getElem ht
    obtain ⟨v, hv, hr⟩ := RepL.get h.env t _ e
    have h1 : st.env.getD t .any = st.env[t] := by simp [List.getD, e]
    have h2 : tmps.getD t undef = v := by
      rw [Array.getElem?_toList] at hv
      rw [Array.getD_eq_getD_getElem?, hv]; rfl
    rw [h1, h2]; exact hr
  · have : st.env.getD t .any = .any := by simp [List.getD, List.getElem?_eq_none (Nat.le_of_not_lt ht)]
    rw [this]; simp only [Rep]

def killF (id : Nat) : Nat → Option Nat := fun r => if r = id then none else some r

/-- Row 'id' is given up. -/
def St.drop (id : Nat) (st : St) : St := ⟨D.renL (killF id) st.env, fun i => if i = id then none else (st.rows i).map (·.ren (killF id))⟩

theorem SR.drop (h : SR G F w0 M0 w M mu tmps st) (id : Nat) : SR G F w0 M0 w M mu tmps (st.drop id) :=
  { h with
    env := RepL.ren (fun r i e => by simp only [killF] at e; split at e <;> simp_all) _ h.env
    rows := fun i row hr => by
      simp only [St.drop] at hr
      split at hr
      · cases hr
      · obtain ⟨r0, e0, rfl⟩ := Option.map_eq_some_iff.1 hr
        exact (h.rows i r0 e0).ren (fun r i e => by simp only [killF] at e; split at e <;> simp_all) rfl
    apart := fun i j ri rj b hij hi hj mi mj => by
      simp only [St.drop] at hi hj
      split at hi
      · cases hi
      · split at hj
        · cases hj
        · obtain ⟨r0, e0, rfl⟩ := Option.map_eq_some_iff.1 hi
          obtain ⟨r1, e1, rfl⟩ := Option.map_eq_some_iff.1 hj
          exact h.apart i j r0 r1 b hij e0 e1 mi mj }

/-- A new row, in the place of whatever bore its number. -/
def St.newRow (id : Nat) (row : Row) (st : St) : St := { (st.drop id) with rows := fun i => if i = id then some row else (st.drop id).rows i }

theorem alloc_block (w : World) (o : Obj) : (w.alloc o).heap[w.heap.size]? = some o := by
  show (w.heap.push o)[w.heap.size]? = _
  simp

theorem Keeps.alloc (M : Nat → Prop) (w : World) (o : Obj) : Keeps M w (w.alloc o) :=
  ⟨rfl, rfl, rfl, by simp, fun b hb _ => Go.RowKit.Below.heap_alloc _ _ _ hb⟩

end
end Go.PR
