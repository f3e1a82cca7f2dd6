/- The data side of the framework: what is known of a Go value (D), and when a value of the model is so (Rep). -/
import Derived.Calls
import Derived.Orders
import Derived.Below
import Derived.Deep.AppendSrc
set_option linter.unusedVariables false
set_option linter.unusedSimpArgs false
namespace Go.PR
open Go

/-- What kind of elements an empty slice would have. -/
inductive NK where
  | ints (k : IntKind) | bools | ints2 (k : IntKind) | gen | unk
  deriving DecidableEq, Inhabited

/-- What is known of a value. Slices that nobody will write any more are told by their contents (immI, immB, imm2, immG); rows that the call may write have a number (rsl, pel, ptr). -/
inductive D where
  | any | und
  | nil (k : NK)
  | bool (b : Bool)
  | int (k : IntKind) (n : Int)
  | str (s : ByteArray)
  | fn (f : FuncId) (cap : List D)
  | immI (k : IntKind) (xs : List Int)
  | immB (xs : List Bool)
  | imm2 (k : IntKind) (xss : List (List Int))
  | immG (els : List D)
  | pim (cells : List D)
  | ptr (r off : Nat)
  | pel (r j : Nat)
  | rsl (r off n : Nat)
  | agg (cells : List D)
  | tup (vs : List D)
  deriving Inhabited

/-- Where a row lies. -/
inductive Loc where
  | nowhere
  | at_ (b base size : Nat)

def All2 {α β : Type} (R : α → β → Prop) : List α → List β → Prop
  | [], [] => True
  | a :: as, b :: bs => R a b ∧ All2 R as bs
  | _, _ => False

def Held (w : World) (M : Nat → Prop) (A : Option Addr) (cv : List Value) : Prop :=
  cv = [] ∨ ∃ ad, A = some ad ∧ ¬ M ad.block ∧ ∀ j, j < cv.length → w.cell? (ad.add j) = cv[j]?

def intsV (k : IntKind) (xs : List Int) : List Value := xs.map (Value.int k)
def boolsV (xs : List Bool) : List Value := xs.map Value.bool

/-- A slice of n elements (one cell each) whose cells hold cv. -/
def SlV (w : World) (M : Nat → Prop) (cv : List Value) (v : Value) : Prop :=
  ∃ A c, v = .slice A cv.length c ∧ cv.length ≤ c ∧ Held w M A cv

def Loc.slice : Loc → Nat → Nat → Value → Prop
  | .nowhere, _, n, v => n = 0 ∧ ∃ A, v = .slice A 0 0
  | .at_ b base size, off, n, v => (n = 0 ∧ off = size ∧ ∃ A, v = .slice A 0 0) ∨ ∃ c, v = .slice (some ⟨b, base + off, none⟩) n c ∧ n ≤ c ∧ off + c = size

def Loc.cell : Loc → Nat → Value → Prop
  | .nowhere, _, _ => False
  | .at_ b base size, off, v => v = .pointer (some ⟨b, base + off, none⟩)

def mu0 : Nat → Option Loc := fun _ => none

mutual
def Rep (w : World) (M : Nat → Prop) (mu : Nat → Option Loc) : D → Value → Prop
  | .any, _ => True
  | .und, v => v = undef
  | .nil _, v => ∃ A, v = .slice A 0 0
  | .bool b, v => v = .bool b
  | .int k n, v => v = .int k n
  | .str s, v => v = .string s
  | .fn f cap, v => ∃ cv : List Value, v = .func (.func f) #[] cv.toArray ∧ RepL w M mu cap cv
  | .immI k xs, v => SlV w M (intsV k xs) v
  | .immB xs, v => SlV w M (boolsV xs) v
  | .imm2 k xss, v => ∃ cv, All2 (fun xs u => SlV w M (intsV k xs) u) xss cv ∧ SlV w M cv v
  | .immG els, v => ∃ cv, RepL w M mu0 els cv ∧ (∀ u ∈ cv, u.oneCell' = true) ∧ SlV w M cv v
  | .pim cells, v => ∃ ad cv, v = .pointer (some ad) ∧ RepL w M mu0 cells cv ∧ Held w M (some ad) cv
  | .ptr r off, v => ∃ l, mu r = some l ∧ l.cell off v
  | .pel r j, v => ∃ l, mu r = some l ∧ l.cell j v
  | .rsl r off n, v => ∃ l, mu r = some l ∧ l.slice off n v
  | .agg cells, v => ∃ cv : List Value, v = .agg cv.toArray ∧ RepL w M mu cells cv
  | .tup vs, v => ∃ cv : List Value, v = .tuple cv.toArray ∧ RepL w M mu vs cv
def RepL (w : World) (M : Nat → Prop) (mu : Nat → Option Loc) : List D → List Value → Prop
  | [], [] => True
  | d :: ds, v :: vs => Rep w M mu d v ∧ RepL w M mu ds vs
  | _, _ => False
end

/-- The world goes on, and what lies outside of M stays. -/
structure Keeps (M : Nat → Prop) (w w' : World) : Prop where
  os : w'.os = w.os
  tape : w'.tape = w.tape
  output : w'.output = w.output
  size : w.heap.size ≤ w'.heap.size
  block : ∀ b, b < w.heap.size → ¬ M b → w'.heap[b]? = w.heap[b]?

theorem Keeps.refl (M : Nat → Prop) (w : World) : Keeps M w w := ⟨rfl, rfl, rfl, Nat.le_refl _, fun _ _ _ => rfl⟩
theorem Keeps.trans {M : Nat → Prop} {a b c : World} (h : Keeps M a b) (k : Keeps M b c) : Keeps M a c :=
  ⟨k.os.trans h.os, k.tape.trans h.tape, k.output.trans h.output, Nat.le_trans h.size k.size, fun i hi hm => (k.block i (Nat.lt_of_lt_of_le hi h.size) hm).trans (h.block i hi hm)⟩
theorem Keeps.mono {M M' : Nat → Prop} {a b : World} (h : Keeps M a b) (hm : ∀ i, i < a.heap.size → M i → M' i) : Keeps M' a b :=
  ⟨h.os, h.tape, h.output, h.size, fun i hi hn => h.block i hi fun hh => hn (hm i hi hh)⟩
theorem Keeps.drew (M : Nat → Prop) (w : World) : Keeps M w w.drew := ⟨rfl, rfl, rfl, Nat.le_refl _, fun _ _ _ => rfl⟩
theorem Keeps.cell {M : Nat → Prop} {w w' : World} (h : Keeps M w w') {a : Addr} {v : Value} (hc : w.cell? a = some v) (hm : ¬ M a.block) : w'.cell? a = some v := by
  have hb := World.block_lt_of_cell? w a hc
  have := h.block a.block hb hm
  rw [← hc]
  exact World.cell?_of_block this

theorem block_add (a : Addr) (j : Nat) : (a.add j).block = a.block := by unfold Addr.add; split <;> rfl

theorem Held.keeps {w w' : World} {M M' : Nat → Prop} {A : Option Addr} {cv : List Value} (h : Held w M A cv) (hk : Keeps M w w') (hm : ∀ b, b < w.heap.size → M' b → M b) : Held w' M' A cv := by
  rcases h with h | ⟨ad, e, hn, hc⟩
  · exact .inl h
  · by_cases h0 : cv = []
    · exact .inl h0
    · refine .inr ⟨ad, e, ?_, ?_⟩
      · intro hh
        refine hn (hm _ ?_ hh)
        have hp : 0 < cv.length := by cases cv with | nil => exact absurd rfl h0 | cons => simp
        have h1 := hc 0 hp
        rw [List.getElem?_eq_getElem hp] at h1
        have := World.block_lt_of_cell? w _ h1
        rwa [block_add] at this
      · intro j hj
        have h1 := hc j hj
        rw [List.getElem?_eq_getElem hj] at h1 ⊢
        exact hk.cell h1 (by rwa [block_add])

theorem SlV.keeps {w w' : World} {M M' : Nat → Prop} {cv : List Value} {v : Value} (h : SlV w M cv v) (hk : Keeps M w w') (hm : ∀ b, b < w.heap.size → M' b → M b) : SlV w' M' cv v := by
  obtain ⟨A, c, e, hl, hh⟩ := h
  exact ⟨A, c, e, hl, hh.keeps hk hm⟩

theorem All2.imp {α β : Type} {R R' : α → β → Prop} (h : ∀ a b, R a b → R' a b) : ∀ {as : List α} {bs : List β}, All2 R as bs → All2 R' as bs
  | [], [], _ => trivial
  | a :: as, b :: bs, h' => ⟨h _ _ h'.1, All2.imp h h'.2⟩

theorem All2.length {α β : Type} {R : α → β → Prop} : ∀ {as : List α} {bs : List β}, All2 R as bs → as.length = bs.length
  | [], [], _ => rfl
  | a :: as, b :: bs, h' => by simp [All2.length h'.2]

theorem RepL.length {w : World} {M : Nat → Prop} {mu : Nat → Option Loc} : ∀ {ds : List D} {vs : List Value}, RepL w M mu ds vs → ds.length = vs.length
  | [], [], _ => rfl
  | d :: ds, v :: vs, h => by simp only [RepL] at h; simp [RepL.length h.2]

mutual
/-- Facts live on: the world keeps what lies outside of M, M grows by new blocks at most, and the rows stay where they were. -/
theorem Rep.keeps {w w' : World} {M M' : Nat → Prop} {mu mu' : Nat → Option Loc} (hk : Keeps M w w') (hm : ∀ b, b < w.heap.size → M' b → M b) (hu : ∀ r l, mu r = some l → mu' r = some l) :
    ∀ (d : D) {v : Value}, Rep w M mu d v → Rep w' M' mu' d v
  | .any, _, _ => by simp only [Rep]
  | .und, _, h => by simpa only [Rep] using h
  | .nil _, _, h => by simpa only [Rep] using h
  | .bool _, _, h => by simpa only [Rep] using h
  | .int _ _, _, h => by simpa only [Rep] using h
  | .str _, _, h => by simpa only [Rep] using h
  | .fn f cap, _, h => by
    simp only [Rep] at h ⊢
    obtain ⟨cv, e, h⟩ := h
    exact ⟨cv, e, RepL.keeps hk hm hu cap h⟩
  | .immI k xs, _, h => by simp only [Rep] at h ⊢; exact h.keeps hk hm
  | .immB xs, _, h => by simp only [Rep] at h ⊢; exact h.keeps hk hm
  | .imm2 k xss, _, h => by
    simp only [Rep] at h ⊢
    obtain ⟨cv, h1, h2⟩ := h
    exact ⟨cv, h1.imp (fun _ _ h => h.keeps hk hm), h2.keeps hk hm⟩
  | .immG els, _, h => by
    simp only [Rep] at h ⊢
    obtain ⟨cv, h1, h2, h3⟩ := h
    exact ⟨cv, RepL.keeps hk hm (fun _ _ h => h) els h1, h2, h3.keeps hk hm⟩
  | .pim cells, _, h => by
    simp only [Rep] at h ⊢
    obtain ⟨ad, cv, e, h1, h2⟩ := h
    exact ⟨ad, cv, e, RepL.keeps hk hm (fun _ _ h => h) cells h1, h2.keeps hk hm⟩
  | .ptr r off, _, h => by
    simp only [Rep] at h ⊢
    obtain ⟨l, e, h⟩ := h
    exact ⟨l, hu _ _ e, h⟩
  | .pel r off, _, h => by
    simp only [Rep] at h ⊢
    obtain ⟨l, e, h⟩ := h
    exact ⟨l, hu _ _ e, h⟩
  | .rsl r off n, _, h => by
    simp only [Rep] at h ⊢
    obtain ⟨l, e, h⟩ := h
    exact ⟨l, hu _ _ e, h⟩
  | .agg cells, _, h => by
    simp only [Rep] at h ⊢
    obtain ⟨cv, e, h⟩ := h
    exact ⟨cv, e, RepL.keeps hk hm hu cells h⟩
  | .tup vs, _, h => by
    simp only [Rep] at h ⊢
    obtain ⟨cv, e, h⟩ := h
    exact ⟨cv, e, RepL.keeps hk hm hu vs h⟩
theorem RepL.keeps {w w' : World} {M M' : Nat → Prop} {mu mu' : Nat → Option Loc} (hk : Keeps M w w') (hm : ∀ b, b < w.heap.size → M' b → M b) (hu : ∀ r l, mu r = some l → mu' r = some l) :
    ∀ (ds : List D) {vs : List Value}, RepL w M mu ds vs → RepL w' M' mu' ds vs
  | [], [], _ => by simp only [RepL]
  | [], _ :: _, h => by simp only [RepL] at h
  | _ :: _, [], h => by simp only [RepL] at h
  | d :: ds, v :: vs, h => by
    simp only [RepL] at h ⊢
    exact ⟨Rep.keeps hk hm hu d h.1, RepL.keeps hk hm hu ds h.2⟩
end

mutual
/-- The rows' numbers turned; what has no new number is forgotten. -/
def D.ren (f : Nat → Option Nat) : D → D
  | .ptr r o => match f r with | some i => .ptr i o | none => .any
  | .pel r o => match f r with | some i => .pel i o | none => .any
  | .rsl r o n => match f r with | some i => .rsl i o n | none => .any
  | .fn g cap => .fn g (D.renL f cap)
  | .agg cs => .agg (D.renL f cs)
  | .tup vs => .tup (D.renL f vs)
  | .any => .any | .und => .und | .nil k => .nil k | .bool b => .bool b | .int k n => .int k n | .str s => .str s
  | .immI k xs => .immI k xs | .immB xs => .immB xs | .imm2 k xss => .imm2 k xss | .immG els => .immG els | .pim cells => .pim cells
def D.renL (f : Nat → Option Nat) : List D → List D
  | [] => []
  | d :: ds => d.ren f :: D.renL f ds
end

mutual
theorem Rep.ren {w : World} {M : Nat → Prop} {mu mu' : Nat → Option Loc} {f : Nat → Option Nat} (hf : ∀ r i, f r = some i → mu' i = mu r) : ∀ (d : D) {v : Value}, Rep w M mu d v → Rep w M mu' (d.ren f) v
  | .any, _, _ => by simp only [D.ren, Rep]
  | .und, _, h => by simpa only [D.ren, Rep] using h
  | .nil _, _, h => by simpa only [D.ren, Rep] using h
  | .bool _, _, h => by simpa only [D.ren, Rep] using h
  | .int _ _, _, h => by simpa only [D.ren, Rep] using h
  | .str _, _, h => by simpa only [D.ren, Rep] using h
  | .fn g cap, _, h => by
    simp only [D.ren, Rep] at h ⊢
    obtain ⟨cv, e, h⟩ := h
    exact ⟨cv, e, RepL.ren hf cap h⟩
  | .immI k xs, _, h => by simpa only [D.ren, Rep] using h
  | .immB xs, _, h => by simpa only [D.ren, Rep] using h
  | .imm2 k xss, _, h => by simpa only [D.ren, Rep] using h
  | .immG els, _, h => by simpa only [D.ren, Rep] using h
  | .pim cells, _, h => by simpa only [D.ren, Rep] using h
  | .ptr r off, _, h => by
    cases e : f r with
    | none => simp only [D.ren, e, Rep]
    | some i => simp only [D.ren, e, Rep] at h ⊢; rw [hf r i e]; exact h
  | .pel r off, _, h => by
    cases e : f r with
    | none => simp only [D.ren, e, Rep]
    | some i => simp only [D.ren, e, Rep] at h ⊢; rw [hf r i e]; exact h
  | .rsl r off n, _, h => by
    cases e : f r with
    | none => simp only [D.ren, e, Rep]
    | some i => simp only [D.ren, e, Rep] at h ⊢; rw [hf r i e]; exact h
  | .agg cells, _, h => by
    simp only [D.ren, Rep] at h ⊢
    obtain ⟨cv, e, h⟩ := h
    exact ⟨cv, e, RepL.ren hf cells h⟩
  | .tup vs, _, h => by
    simp only [D.ren, Rep] at h ⊢
    obtain ⟨cv, e, h⟩ := h
    exact ⟨cv, e, RepL.ren hf vs h⟩
theorem RepL.ren {w : World} {M : Nat → Prop} {mu mu' : Nat → Option Loc} {f : Nat → Option Nat} (hf : ∀ r i, f r = some i → mu' i = mu r) : ∀ (ds : List D) {vs : List Value}, RepL w M mu ds vs → RepL w M mu' (D.renL f ds) vs
  | [], [], _ => by simp only [D.renL, RepL]
  | [], _ :: _, h => by simp only [RepL] at h
  | _ :: _, [], h => by simp only [RepL] at h
  | d :: ds, v :: vs, h => by
    simp only [D.renL, RepL] at h ⊢
    exact ⟨Rep.ren hf d h.1, RepL.ren hf ds h.2⟩
end

theorem RepL.get {w : World} {M : Nat → Prop} {mu : Nat → Option Loc} : ∀ {ds : List D} {vs : List Value}, RepL w M mu ds vs → ∀ (i : Nat) (d : D), ds[i]? = some d → ∃ v, vs[i]? = some v ∧ Rep w M mu d v
  | [], [], _, i, d, e => by simp at e
  | d :: ds, v :: vs, h, 0, d', e => by simp only [RepL] at h; simp at e; subst e; exact ⟨v, by simp, h.1⟩
  | d :: ds, v :: vs, h, i + 1, d', e => by simp only [RepL] at h; simpa using RepL.get h.2 i d' (by simpa using e)

theorem RepL.of_get {w : World} {M : Nat → Prop} {mu : Nat → Option Loc} : ∀ {ds : List D} {vs : List Value}, ds.length = vs.length → (∀ (i : Nat) (d : D) (v : Value), ds[i]? = some d → vs[i]? = some v → Rep w M mu d v) → RepL w M mu ds vs
  | [], [], _, _ => by simp only [RepL]
  | [], _ :: _, h, _ => by simp at h
  | _ :: _, [], h, _ => by simp at h
  | d :: ds, v :: vs, h, hh => by
    simp only [RepL]
    exact ⟨hh 0 d v (by simp) (by simp), RepL.of_get (by simpa using h) fun i d' v' e1 e2 => hh (i + 1) d' v' (by simpa using e1) (by simpa using e2)⟩

theorem RepL.append {w : World} {M : Nat → Prop} {mu : Nat → Option Loc} : ∀ {ds ds' : List D} {vs vs' : List Value}, RepL w M mu ds vs → RepL w M mu ds' vs' → RepL w M mu (ds ++ ds') (vs ++ vs')
  | [], _, [], _, _, h => by simpa using h
  | [], _, _ :: _, _, h, _ => by simp only [RepL] at h
  | _ :: _, _, [], _, h, _ => by simp only [RepL] at h
  | d :: ds, ds', v :: vs, vs', h, h' => by
    simp only [RepL, List.cons_append] at h ⊢
    exact ⟨h.1, RepL.append h.2 h'⟩

theorem RepL.take {w : World} {M : Nat → Prop} {mu : Nat → Option Loc} : ∀ (n : Nat) {ds : List D} {vs : List Value}, RepL w M mu ds vs → RepL w M mu (ds.take n) (vs.take n)
  | 0, _, _, _ => by simp [RepL]
  | n + 1, [], [], _ => by simp [RepL]
  | n + 1, [], _ :: _, h => by simp only [RepL] at h
  | n + 1, _ :: _, [], h => by simp only [RepL] at h
  | n + 1, d :: ds, v :: vs, h => by simp only [RepL, List.take_succ_cons] at h ⊢; exact ⟨h.1, RepL.take n h.2⟩

theorem RepL.drop {w : World} {M : Nat → Prop} {mu : Nat → Option Loc} : ∀ (n : Nat) {ds : List D} {vs : List Value}, RepL w M mu ds vs → RepL w M mu (ds.drop n) (vs.drop n)
  | 0, _, _, h => by simpa using h
  | n + 1, [], [], _ => by simp [RepL]
  | n + 1, [], _ :: _, h => by simp only [RepL] at h
  | n + 1, _ :: _, [], h => by simp only [RepL] at h
  | n + 1, d :: ds, v :: vs, h => by simp only [RepL, List.drop_succ_cons] at h ⊢; exact RepL.drop n h.2

theorem RepL.set {w : World} {M : Nat → Prop} {mu : Nat → Option Loc} {d : D} {v : Value} (hd : Rep w M mu d v) : ∀ (n : Nat) {ds : List D} {vs : List Value}, RepL w M mu ds vs → RepL w M mu (ds.set n d) (vs.set n v)
  | _, [], [], _ => by simp [RepL]
  | _, [], _ :: _, h => by simp only [RepL] at h
  | _, _ :: _, [], h => by simp only [RepL] at h
  | 0, d' :: ds, v' :: vs, h => by simp only [RepL, List.set_cons_zero] at h ⊢; exact ⟨hd, h.2⟩
  | n + 1, d' :: ds, v' :: vs, h => by simp only [RepL, List.set_cons_succ] at h ⊢; exact ⟨h.1, RepL.set hd n h.2⟩

end Go.PR
