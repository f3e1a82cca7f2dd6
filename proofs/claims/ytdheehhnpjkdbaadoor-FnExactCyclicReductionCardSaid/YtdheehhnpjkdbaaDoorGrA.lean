/- Words of traces and of graph groups: plain mathematics. -/
namespace Gp
set_option linter.unusedVariables false
set_option linter.unusedSectionVars false

section
variable {α : Type} [DecidableEq α]

/-- Dependence. -/
structure Dep (α : Type) where
  d : α → α → Bool
  sym : ∀ a b, d a b = d b a
  refl : ∀ a, d a a = true

variable (T : Dep α)

/-- Is a letter a first one? -/
def isFirst : List α → α → Bool
  | [], _ => false
  | x :: xs, a => decide (x = a) || (!T.d x a && isFirst xs a)

def two (a b x : α) : Bool := decide (x = a) || decide (x = b)

/-- The same trace. -/
def teq (u v : List α) : Prop := ∀ a b, T.d a b = true → u.filter (two a b) = v.filter (two a b)

variable {T}

theorem teq.refl (u : List α) : teq T u u := fun _ _ _ => rfl
theorem teq.symm {u v : List α} (h : teq T u v) : teq T v u := fun a b hd => (h a b hd).symm
theorem teq.trans {u v w : List α} (h : teq T u v) (k : teq T v w) : teq T u w := fun a b hd => (h a b hd).trans (k a b hd)
theorem teq.cons {u v : List α} (h : teq T u v) (x : α) : teq T (x :: u) (x :: v) := fun a b hd => by simp only [List.filter_cons, h a b hd]
theorem teq.append {u v u' v' : List α} (h : teq T u v) (h' : teq T u' v') : teq T (u ++ u') (v ++ v') := fun a b hd => by rw [List.filter_append, List.filter_append, h a b hd, h' a b hd]
theorem teq.erase {u v : List α} (h : teq T u v) (x : α) : teq T (u.erase x) (v.erase x) := fun a b hd => by rw [← List.erase_filter, ← List.erase_filter, h a b hd]
theorem teq.reverse {u v : List α} (h : teq T u v) : teq T u.reverse v.reverse := fun a b hd => by rw [List.filter_reverse, List.filter_reverse, h a b hd]

theorem teq.mem {u v : List α} (h : teq T u v) (x : α) : x ∈ u ↔ x ∈ v := by
  have := h x x (T.refl x)
  have hx : ∀ l : List α, x ∈ l ↔ x ∈ l.filter (two x x) := fun l => by simp [List.mem_filter, two]
  rw [hx u, hx v, this]

theorem teq.count {u v : List α} (h : teq T u v) (x : α) : u.count x = v.count x := by
  have := congrArg (List.count x) (h x x (T.refl x))
  rw [List.count_filter (by simp [two]), List.count_filter (by simp [two])] at this
  exact this

theorem teq.perm {u v : List α} (h : teq T u v) : u.Perm v := List.perm_iff_count.2 fun x => h.count x

theorem teq.length {u v : List α} (h : teq T u v) : u.length = v.length := h.perm.length_eq

theorem isFirst_iff {a : α} : ∀ {w : List α}, isFirst T w a = true ↔ ∀ b, T.d a b = true → (w.filter (two a b)).head? = some a
  | [] => by
    simp only [isFirst, List.filter_nil, List.head?_nil]
    exact ⟨fun h => (by cases h), fun h => (by have := h a (T.refl a); cases this)⟩
  | x :: xs => by
    have ih := isFirst_iff (a := a) (w := xs)
    simp only [isFirst, Bool.or_eq_true, decide_eq_true_eq, Bool.and_eq_true, Bool.not_eq_true']
    by_cases hx : x = a
    · subst hx
      simp only [true_or, true_iff]
      intro b hb
      simp [List.filter_cons, two]
    · simp only [hx, false_or]
      cases hd : T.d x a with
      | true =>
        simp only [Bool.true_eq_false, false_and, false_iff]
        intro h
        have := h x (by rw [T.sym]; exact hd)
        simp [List.filter_cons, two] at this
        exact hx this
      | false =>
        simp only [true_and]
        rw [ih]
        constructor
        · intro h b hb
          have hxb : x ≠ b := fun e => by rw [e, T.sym, hb] at hd; cases hd
          have : two a b x = false := by simp [two, hx, hxb]
          simp only [List.filter_cons, this]
          exact h b hb
        · intro h b hb
          have hxb : x ≠ b := fun e => by rw [e, T.sym, hb] at hd; cases hd
          have h2 : two a b x = false := by simp [two, hx, hxb]
          have := h b hb
          simpa [List.filter_cons, h2] using this

theorem teq.first {u v : List α} (h : teq T u v) (a : α) : isFirst T u a = isFirst T v a := by
  rw [Bool.eq_iff_iff, isFirst_iff, isFirst_iff]
  exact ⟨fun hh b hb => by rw [← h a b hb]; exact hh b hb, fun hh b hb => by rw [h a b hb]; exact hh b hb⟩

theorem isFirst_mem {a : α} : ∀ {w : List α}, isFirst T w a = true → a ∈ w
  | [], h => by cases h
  | x :: xs, h => by
    simp only [isFirst, Bool.or_eq_true, decide_eq_true_eq, Bool.and_eq_true] at h
    rcases h with rfl | h
    · simp
    · exact List.mem_cons_of_mem _ (isFirst_mem h.2)

/-- A first letter may stand in front. -/
theorem teq_front {w : List α} {a : α} (h : isFirst T w a = true) : teq T (a :: w.erase a) w := by
  intro c d hd
  rw [List.filter_cons, ← List.erase_filter]
  by_cases ha : two c d a = true
  · rw [if_pos ha]
    have key : ∃ b, T.d a b = true ∧ two c d = two a b := by
      simp only [two, Bool.or_eq_true, decide_eq_true_eq] at ha
      rcases ha with rfl | rfl
      · exact ⟨d, hd, rfl⟩
      · refine ⟨c, by rw [T.sym]; exact hd, ?_⟩
        funext x; simp only [two, Bool.or_comm]
    obtain ⟨b, hb, e⟩ := key
    rw [e]
    have := isFirst_iff.1 h b hb
    cases hf : w.filter (two a b) with
    | nil => rw [hf] at this; cases this
    | cons x xs =>
      rw [hf] at this
      simp at this
      subst this
      simp
  · rw [if_neg ha]
    apply List.erase_of_not_mem
    intro hm
    exact ha (List.mem_filter.1 hm).2

theorem erase_comm' (l : List α) (a b : α) : (l.erase a).erase b = (l.erase b).erase a := List.erase_comm a b

/-! ### groups -/
structure Grp (α : Type) extends Dep α where
  inv : α → α
  inv2 : ∀ a, inv (inv a) = a
  dinv : ∀ a b, d (inv a) b = d a b

variable {G : Grp α}

theorem Grp.dinv' (a b : α) : G.d a (G.inv b) = G.d a b := by rw [G.sym, G.dinv, G.sym]
theorem Grp.dself (a : α) : G.d (G.inv a) a = true := by rw [G.dinv, G.refl]

variable (G) in
def push (s : α) (R : List α) : List α := if isFirst G.toDep R (G.inv s) then R.erase (G.inv s) else s :: R

variable (G) in
/-- No letter stands before its inverse with nothing between that keeps them apart. -/
def red : List α → Prop
  | [] => True
  | s :: R => isFirst G.toDep R (G.inv s) = false ∧ red R

variable (G) in
def fold (w R : List α) : List α := w.foldl (fun R s => push G s R) R

theorem fold_nil (R : List α) : fold G [] R = R := rfl
theorem fold_cons (s : α) (w R : List α) : fold G (s :: w) R = fold G w (push G s R) := rfl
theorem fold_append (u v R : List α) : fold G (u ++ v) R = fold G v (fold G u R) := by simp [fold, List.foldl_append]

theorem push_teq {R R' : List α} (h : teq G.toDep R R') (s : α) : teq G.toDep (push G s R) (push G s R') := by
  unfold push
  rw [h.first]
  split
  · exact h.erase _
  · exact h.cons _

theorem fold_teq {R R' : List α} : ∀ (w : List α) {R R' : List α}, teq G.toDep R R' → teq G.toDep (fold G w R) (fold G w R')
  | [], _, _, h => h
  | s :: w, _, _, h => by rw [fold_cons, fold_cons]; exact fold_teq (R := R) (R' := R') w (push_teq h s)

theorem first_erase {c y : α} (h : G.d c y = false) : ∀ (R : List α), isFirst G.toDep (R.erase c) y = isFirst G.toDep R y
  | [] => rfl
  | x :: R => by
    by_cases hx : x = c
    · subst hx
      have : x ≠ y := fun e => by rw [e, G.refl] at h; cases h
      simp [isFirst, this, h]
    · rw [List.erase_cons_tail (by simpa using hx)]
      simp only [isFirst, first_erase h R]

theorem red_erase {c : α} : ∀ {R : List α}, red G R → isFirst G.toDep R c = true → red G (R.erase c)
  | [], _, _ => trivial
  | x :: R, hr, hf => by
    by_cases hx : x = c
    · subst hx; simpa using hr.2
    · rw [List.erase_cons_tail (by simpa using hx)]
      simp only [isFirst, hx, decide_false, Bool.false_or, Bool.and_eq_true, Bool.not_eq_true'] at hf
      refine ⟨?_, red_erase hr.2 hf.2⟩
      rw [first_erase (by rw [Grp.dinv', G.sym]; exact hf.1)]
      exact hr.1

theorem push_red {R : List α} (h : red G R) (s : α) : red G (push G s R) := by
  unfold push
  split
  · rename_i e; exact red_erase h e
  · rename_i e; exact ⟨by simpa using e, h⟩

theorem fold_red : ∀ (w : List α) {R : List α}, red G R → red G (fold G w R)
  | [], _, h => h
  | s :: w, _, h => by rw [fold_cons]; exact fold_red w (push_red h s)

theorem back_not {c : α} : ∀ {R : List α}, red G R → isFirst G.toDep R c = true → isFirst G.toDep (R.erase c) (G.inv c) = false
  | [], _, hf => by cases hf
  | x :: R, hr, hf => by
    by_cases hx : x = c
    · subst hx; simpa using hr.1
    · rw [List.erase_cons_tail (by simpa using hx)]
      simp only [isFirst, hx, decide_false, Bool.false_or, Bool.and_eq_true, Bool.not_eq_true'] at hf
      have h1 : x ≠ G.inv c := fun e => by have := hf.1; rw [e, Grp.dself] at this; cases this
      simp only [isFirst, h1, decide_false, Bool.false_or, back_not hr.2 hf.2, Bool.and_false]

/-- A letter and its inverse. -/
theorem push_back {R : List α} (h : red G R) (s : α) : teq G.toDep (push G (G.inv s) (push G s R)) R := by
  unfold push
  by_cases hf : isFirst G.toDep R (G.inv s) = true
  · rw [if_pos hf, if_neg (by rw [back_not h hf]; simp)]
    exact teq_front hf
  · rw [if_neg hf]
    have : isFirst G.toDep (s :: R) (G.inv (G.inv s)) = true := by rw [G.inv2]; simp [isFirst]
    rw [if_pos this, G.inv2]
    simp
    exact teq.refl R

theorem cons_comm {s t : α} (h : G.d s t = false) (R : List α) : teq G.toDep (t :: s :: R) (s :: t :: R) := by
  intro a b hd
  have hst : ¬ (two a b s = true ∧ two a b t = true) := by
    rintro ⟨h1, h2⟩
    simp only [two, Bool.or_eq_true, decide_eq_true_eq] at h1 h2
    rcases h1 with rfl | rfl <;> rcases h2 with rfl | rfl
    · rw [G.refl] at h; cases h
    · rw [hd] at h; cases h
    · rw [G.sym, hd] at h; cases h
    · rw [G.refl] at h; cases h
  simp only [List.filter_cons]
  by_cases h1 : two a b s = true
  · have : two a b t = false := by simpa using fun h2 => hst ⟨h1, h2⟩
    simp [this]
  · simp at h1; simp [h1]

theorem first_push {s t : α} (h : G.d s t = false) (R : List α) : isFirst G.toDep (push G s R) (G.inv t) = isFirst G.toDep R (G.inv t) := by
  unfold push
  split
  · exact first_erase (by rw [G.dinv, Grp.dinv']; exact h) R
  · have h1 : s ≠ G.inv t := fun e => by rw [e, Grp.dself] at h; cases h
    simp [isFirst, h1, Grp.dinv', h]

theorem push_comm {s t : α} (h : G.d s t = false) (R : List α) : teq G.toDep (push G t (push G s R)) (push G s (push G t R)) := by
  have h' : G.d t s = false := by rw [G.sym]; exact h
  have n1 : t ≠ G.inv s := fun e => by rw [e, Grp.dinv', G.refl] at h; cases h
  have n2 : s ≠ G.inv t := fun e => by rw [e, Grp.dself] at h; cases h
  have f1 := first_push h R
  have f2 := first_push h' R
  have e1 : ∀ x, push G t x = if isFirst G.toDep x (G.inv t) then x.erase (G.inv t) else t :: x := fun _ => rfl
  have e2 : ∀ x, push G s x = if isFirst G.toDep x (G.inv s) then x.erase (G.inv s) else s :: x := fun _ => rfl
  rw [e1 (push G s R), e2 (push G t R), f1, f2, e1 R, e2 R]
  by_cases ht : isFirst G.toDep R (G.inv t) = true <;> by_cases hs : isFirst G.toDep R (G.inv s) = true
  · rw [if_pos ht, if_pos hs, if_pos ht, if_pos hs, erase_comm']; exact teq.refl _
  · rw [if_pos ht, if_neg hs, if_pos ht, if_neg hs, List.erase_cons_tail (by simpa using n2)]; exact teq.refl _
  · rw [if_neg ht, if_pos hs, if_neg ht, if_pos hs, List.erase_cons_tail (by simpa using n1)]; exact teq.refl _
  · rw [if_neg ht, if_neg hs, if_neg ht, if_neg hs]; exact cons_comm h R

theorem fold_push {s : α} : ∀ (M : List α) (R : List α), (∀ y ∈ M, G.d s y = false) → teq G.toDep (fold G M (push G s R)) (push G s (fold G M R))
  | [], R, _ => teq.refl _
  | y :: M, R, h => by
    rw [fold_cons, fold_cons]
    exact (fold_teq (R := R) (R' := R) M (push_comm (h y (by simp)) R)).trans (fold_push M _ fun z hz => h z (by simp [hz]))

/-- What a step of cancelling does. -/
theorem fold_cancel {x : α} {R : List α} (h : red G R) (M : List α) (hM : ∀ y ∈ M, G.d x y = false) : teq G.toDep (fold G (x :: M ++ [G.inv x]) R) (fold G M R) := by
  rw [List.cons_append, fold_cons, fold_append, fold_cons, fold_nil]
  exact (push_teq (fold_push M R hM) _).trans (push_back (fold_red M h) x)

theorem fold_cancel_mid {x : α} (A M B : List α) (hM : ∀ y ∈ M, G.d x y = false) : teq G.toDep (fold G (A ++ (x :: M ++ [G.inv x]) ++ B) []) (fold G (A ++ M ++ B) []) := by
  rw [fold_append (A ++ _) B, fold_append A, fold_append (A ++ M) B, fold_append A M]
  exact fold_teq (R := []) (R' := []) B (fold_cancel (fold_red A (R := []) trivial) M hM)

theorem first_split {c : α} : ∀ {R : List α}, isFirst G.toDep R c = true → ∃ M B, R = M ++ c :: B ∧ ∀ y ∈ M, G.d y c = false
  | [], h => by cases h
  | x :: R, h => by
    by_cases hx : x = c
    · subst hx; exact ⟨[], R, rfl, by simp⟩
    · simp only [isFirst, hx, decide_false, Bool.false_or, Bool.and_eq_true, Bool.not_eq_true'] at h
      obtain ⟨M, B, e, hM⟩ := first_split h.2
      exact ⟨x :: M, B, by rw [e]; rfl, fun y hy => by
        rcases List.mem_cons.1 hy with rfl | hy
        · exact h.1
        · exact hM y hy⟩

theorem first_of_split {c : α} {B : List α} : ∀ {M : List α}, (∀ y ∈ M, G.d y c = false) → isFirst G.toDep (M ++ c :: B) c = true
  | [], _ => by simp [isFirst]
  | x :: M, h => by
    simp only [List.cons_append, isFirst, Bool.or_eq_true, Bool.and_eq_true, Bool.not_eq_true']
    exact .inr ⟨h x (by simp), first_of_split fun y hy => h y (by simp [hy])⟩

theorem red_iff : ∀ {R : List α}, red G R ↔ ∀ A x M B, R = A ++ x :: (M ++ G.inv x :: B) → ∃ y ∈ M, G.d x y = true
  | [] => by
    simp only [red, true_iff]
    intro A x M B e
    cases A <;> cases e
  | s :: R => by
    rw [red, red_iff]
    constructor
    · rintro ⟨h1, h2⟩ A x M B e
      cases A with
      | nil =>
        simp only [List.nil_append, List.cons.injEq] at e
        obtain ⟨rfl, rfl⟩ := e
        cases hh : M.any (fun y => G.d s y) with
        | true => obtain ⟨y, hy, hd⟩ := List.any_eq_true.1 hh; exact ⟨y, hy, hd⟩
        | false =>
          rw [first_of_split (fun y hy => by
            have := List.any_eq_false.1 hh y hy
            rw [Grp.dinv', G.sym]; simpa using this)] at h1
          cases h1
      | cons a A =>
        simp only [List.cons_append, List.cons.injEq] at e
        exact h2 A x M B e.2
    · intro h
      refine ⟨?_, fun A x M B e => h (s :: A) x M B (by rw [e]; rfl)⟩
      cases hf : isFirst G.toDep R (G.inv s) with
      | false => rfl
      | true =>
        obtain ⟨M, B, rfl, hM⟩ := first_split hf
        obtain ⟨y, hy, hd⟩ := h [] s M B rfl
        have := hM y hy
        rw [Grp.dinv', G.sym, hd] at this
        cases this

theorem red_reverse {R : List α} (h : red G R) : red G R.reverse := by
  rw [red_iff] at h ⊢
  intro A x M B e
  have e2 : R = B.reverse ++ G.inv x :: (M.reverse ++ G.inv (G.inv x) :: A.reverse) := by
    have := congrArg List.reverse e
    rw [List.reverse_reverse] at this
    rw [this, G.inv2]
    simp
  obtain ⟨y, hy, hd⟩ := h _ _ _ _ e2
  exact ⟨y, by simpa using hy, by rw [← G.dinv]; exact hd⟩

theorem fold_of_red : ∀ (n : Nat) (w : List α), w.length = n → red G w.reverse → fold G w [] = w.reverse
  | 0, w, hn, _ => by
    obtain rfl : w = [] := List.eq_nil_of_length_eq_zero hn
    rfl
  | n + 1, w, hn, h => by
    obtain ⟨w', s, rfl⟩ : ∃ w' s, w = w' ++ [s] := ⟨w.dropLast, w.getLast (by intro e; subst e; cases hn), (List.dropLast_concat_getLast _).symm⟩
    rw [List.reverse_append] at h ⊢
    simp only [List.reverse_cons, List.reverse_nil, List.nil_append, List.cons_append] at h ⊢
    rw [fold_append, fold_of_red n w' (by simpa using hn) h.2, fold_cons, fold_nil]
    unfold push
    rw [if_neg (by rw [h.1]; simp)]

variable (G) in
/-- The inverse word. -/
def back (w : List α) : List α := (w.map G.inv).reverse

theorem back_cons (s : α) (w : List α) : back G (s :: w) = back G w ++ [G.inv s] := by simp [back]

theorem fold_back : ∀ (w : List α) {R : List α}, red G R → teq G.toDep (fold G (w ++ back G w) R) R
  | [], R, _ => teq.refl R
  | s :: w, R, h => by
    rw [back_cons, ← List.append_assoc, fold_append, List.cons_append, fold_cons, fold_cons, fold_nil]
    exact (push_teq (fold_back w (push_red h s)) _).trans (push_back h s)

theorem back_back (w : List α) : back G (back G w) = w := by
  simp only [back, List.map_reverse, List.reverse_reverse, List.map_map]
  have : (G.inv ∘ G.inv) = id := by funext x; exact G.inv2 x
  rw [this, List.map_id]

theorem fold_back' (w : List α) {R : List α} (h : red G R) : teq G.toDep (fold G (back G w ++ w) R) R := by
  have := fold_back (back G w) h
  rwa [back_back] at this

/-- Equal in the group. -/
theorem fold_eq_iff (u v : List α) : teq G.toDep (fold G u []) (fold G v []) ↔ fold G (u ++ back G v) [] = [] := by
  constructor
  · intro h
    have h1 : teq G.toDep (fold G (u ++ back G v) []) (fold G (v ++ back G v) []) := by
      rw [fold_append, fold_append]; exact fold_teq (R := []) (R' := []) _ h
    have h2 := h1.trans (fold_back v (R := []) trivial)
    exact List.eq_nil_of_length_eq_zero h2.length
  · intro h
    have h1 := fold_back' (G := G) v (R := fold G u []) (fold_red u trivial)
    rw [fold_append, ← fold_append u, h] at h1
    exact h1.symm

end

/-! ### normal forms of words of numbers -/
section
variable (T : Dep Int)

/-- The least one of the first letters, of those below m. -/
def leastF (m : Nat) (w : List Int) : Option Int := ((List.range m).map fun (i : Nat) => (i : Int)).find? fun a => isFirst T w a

def nfk (m : Nat) : Nat → List Int → List Int
  | 0, _ => []
  | k + 1, w => match leastF T m w with
    | some a => a :: nfk m k (w.erase a)
    | none => []

/-- The normal form. -/
def nform (m : Nat) (w : List Int) : List Int := nfk T m w.length w

variable {T}

theorem leastF_some {m : Nat} {w : List Int} {a : Int} (h : leastF T m w = some a) : isFirst T w a = true ∧ 0 ≤ a ∧ a < m := by
  unfold leastF at h
  refine ⟨List.find?_some h, ?_⟩
  have := List.mem_of_find?_eq_some h
  obtain ⟨i, hi, rfl⟩ := List.mem_map.1 this
  have := List.mem_range.1 hi
  omega

theorem leastF_none {m : Nat} {w : List Int} (h : leastF T m w = none) (hw : ∀ x ∈ w, 0 ≤ x ∧ x < m) : w = [] := by
  cases w with
  | nil => rfl
  | cons x xs =>
    unfold leastF at h
    rw [List.find?_eq_none] at h
    have hx := hw x (by simp)
    have := h x (List.mem_map.2 ⟨x.toNat, List.mem_range.2 (by omega), by omega⟩)
    simp [isFirst] at this

theorem teq.leastF {u v : List Int} (h : teq T u v) (m : Nat) : leastF T m u = leastF T m v := by
  unfold Gp.leastF
  congr 1
  funext a
  exact h.first a

theorem nfk_teq {m : Nat} : ∀ (k : Nat) {u v : List Int}, teq T u v → nfk T m k u = nfk T m k v
  | 0, _, _, _ => rfl
  | k + 1, u, v, h => by
    simp only [nfk, h.leastF]
    cases Gp.leastF T m v with
    | none => rfl
    | some a => simp only; rw [nfk_teq k (h.erase a)]

theorem teq.nform {u v : List Int} (h : teq T u v) (m : Nat) : nform T m u = nform T m v := by
  unfold Gp.nform; rw [h.length]; exact nfk_teq _ h

theorem nfk_same {m : Nat} : ∀ (k : Nat) {w : List Int}, w.length = k → (∀ x ∈ w, 0 ≤ x ∧ x < m) → teq T (nfk T m k w) w
  | 0, w, hk, _ => by
    obtain rfl : w = [] := List.eq_nil_of_length_eq_zero hk
    exact teq.refl _
  | k + 1, w, hk, hw => by
    simp only [nfk]
    cases h : Gp.leastF T m w with
    | none => have := leastF_none h hw; subst this; cases hk
    | some a =>
      simp only
      have hf := (leastF_some h).1
      have hm := isFirst_mem hf
      refine ((nfk_same k (by rw [List.length_erase_of_mem hm]; omega) fun x hx => hw x (List.mem_of_mem_erase hx)).cons a).trans (teq_front hf)

theorem nform_same {m : Nat} {w : List Int} (hw : ∀ x ∈ w, 0 ≤ x ∧ x < m) : teq T (nform T m w) w := nfk_same _ rfl hw

theorem nform_eq_iff {m : Nat} {u v : List Int} (hu : ∀ x ∈ u, 0 ≤ x ∧ x < m) (hv : ∀ x ∈ v, 0 ≤ x ∧ x < m) : nform T m u = nform T m v ↔ teq T u v :=
  ⟨fun h => (nform_same hu).symm.trans (h ▸ nform_same hv), fun h => h.nform m⟩

theorem nform_length {m : Nat} {w : List Int} (hw : ∀ x ∈ w, 0 ≤ x ∧ x < m) : (nform T m w).length = w.length := (nform_same (T := T) hw).length

end
end Gp
