/- The data side of the framework: what is known of a Go value (D), and when a value of the model is so (Rep). -/
import Derived.Calls
import Derived.Orders
import Derived.Below
import Derived.Deep.AppendSrc
import Derived.Laws.Small
import Derived.Laws.BytesString
import Derived.Lib.SliceRun
set_option linter.unusedVariables false
set_option linter.unusedSimpArgs false
set_option linter.unusedSectionVars false
section
namespace Go.PR
open Go
inductive FK where
  | int (k : IntKind) | bool | ints (k : IntKind) | ints2 (k : IntKind)
  deriving DecidableEq, Inhabited
inductive NK where
  | ints (k : IntKind) | bools | ints2 (k : IntKind) | gen | unk | nest (k : IntKind) | recs (sh : List FK)
  deriving DecidableEq, Inhabited
structure Rcd where
  is : List Int
  ls : List (List Int)
  lls : List (List (List Int))
  deriving Inhabited, DecidableEq
inductive D where
  | any | und
  | nil (k : NK)
  | bool (b : Bool)
  | int (k : IntKind) (n : Int)
  | str (s : ByteArray)
  | fn (f : FuncId) (cap : List D)
  | immI (k : IntKind) (xs : List Int)
  | immB (xs : List Bool)
  | imm2 (k : IntKind) (xss : List (List Int))
  | immG (els : List D)
  | immR (sh : List FK) (ps : List Rcd)
  | pim (cells : List D)
  | ptr (r off : Nat)
  | pel (r j : Nat)
  | rsl (r off n : Nat)
  | mpr (r : Nat)
  | nsl (r n : Nat)
  | nel (r j n : Nat)
  | npe (r j : Nat)
  | nep (r j i : Nat)
  | rcs (r sz n : Nat)
  | rpe (r sz i f : Nat)
  | agg (cells : List D)
  | tup (vs : List D)
  deriving Inhabited
inductive Loc where
  | nowhere
  | at_ (b base size : Nat)
  | mapAt (b : Nat)
  | nest (b base size : Nat) (inn : List (Option (Nat × Nat × Nat)))
def All2 {α β : Type} (R : α → β → Prop) : List α → List β → Prop
  | [], [] => True
  | a :: as, b :: bs => R a b ∧ All2 R as bs
  | _, _ => False
def Held (w : World) (M : Nat → Prop) (A : Option Addr) (cv : List Value) : Prop :=
  cv = [] ∨ ∃ ad, A = some ad ∧ ¬ M ad.block ∧ ∀ j, j < cv.length → w.cell? (ad.add j) = cv[j]?
def intsV (k : IntKind) (xs : List Int) : List Value := xs.map (Value.int k)
def boolsV (xs : List Bool) : List Value := xs.map Value.bool
def SlV (w : World) (M : Nat → Prop) (cv : List Value) (v : Value) : Prop :=
  ∃ A c, v = .slice A cv.length c ∧ cv.length ≤ c ∧ Held w M A cv
def rcdRep (w : World) (M : Nat → Prop) : List FK → Rcd → List Value → Prop
  | [], _, [] => True
  | .int k :: fs, p, v :: vs => v = .int k (p.is.headD 0) ∧ rcdRep w M fs ⟨p.is.tail, p.ls, p.lls⟩ vs
  | .bool :: fs, p, v :: vs => v = .bool (p.is.headD 0 != 0) ∧ rcdRep w M fs ⟨p.is.tail, p.ls, p.lls⟩ vs
  | .ints k :: fs, p, v :: vs => SlV w M (intsV k (p.ls.headD [])) v ∧ rcdRep w M fs ⟨p.is, p.ls.tail, p.lls⟩ vs
  | .ints2 k :: fs, p, v :: vs => (∃ cv, All2 (fun xs u => SlV w M (intsV k xs) u) (p.lls.headD []) cv ∧ SlV w M cv v) ∧ rcdRep w M fs ⟨p.is, p.ls, p.lls.tail⟩ vs
  | _, _, _ => False
def rcdsRep (w : World) (M : Nat → Prop) (sh : List FK) : List Rcd → List Value → Prop
  | [], cv => cv = []
  | p :: ps, cv => ∃ v1 v2, cv = v1 ++ v2 ∧ rcdRep w M sh p v1 ∧ rcdsRep w M sh ps v2
def Loc.slice : Loc → Nat → Nat → Value → Prop
  | .nowhere, _, n, v => n = 0 ∧ ∃ A, v = .slice A 0 0
  | .at_ b base size, off, n, v => (n = 0 ∧ off = size ∧ ∃ A, v = .slice A 0 0) ∨ ∃ c, v = .slice (some ⟨b, base + off, none⟩) n c ∧ n ≤ c ∧ off + c = size
  | .mapAt _, _, _, _ => False
  | .nest _ _ _ _, _, _, _ => False
def Loc.cell : Loc → Nat → Value → Prop
  | .nowhere, _, _ => False
  | .at_ b base size, off, v => v = .pointer (some ⟨b, base + off, none⟩)
  | .mapAt _, _, _ => False
  | .nest _ _ _ _, _, _ => False
def Loc.outer : Loc → Nat → Value → Prop
  | .nowhere, n, v => n = 0 ∧ ∃ A, v = .slice A 0 0
  | .nest b base size _, n, v => v = .slice (some ⟨b, base, none⟩) n size ∧ n ≤ size
  | _, _, _ => False
def Loc.inner : Loc → Nat → Nat → Value → Prop
  | .nest _ _ _ inn, j, n, v => match inn[j]? with
    | some none => n = 0 ∧ ∃ A, v = .slice A 0 0
    | some (some (b, base, size)) => v = .slice (some ⟨b, base, none⟩) n size ∧ n ≤ size
    | none => False
  | _, _, _, _ => False
def Loc.recs : Loc → Nat → Nat → Value → Prop
  | .nowhere, _, n, v => n = 0 ∧ ∃ A, v = .slice A 0 0
  | .at_ b base size, sz, n, v => ∃ c, v = .slice (some ⟨b, base, none⟩) n c ∧ n ≤ c ∧ c * sz = size
  | _, _, _, _ => False
def Loc.ocell : Loc → Nat → Value → Prop
  | .nest b base _ _, j, v => v = .pointer (some ⟨b, base + j, none⟩)
  | _, _, _ => False
def Loc.icell : Loc → Nat → Nat → Value → Prop
  | .nest _ _ _ inn, j, i, v => match inn[j]? with
    | some (some (b, base, _)) => v = .pointer (some ⟨b, base + i, none⟩)
    | _ => False
  | _, _, _, _ => False
theorem Loc.ocell_form {l : Loc} {j : Nat} {v : Value} (h : l.ocell j v) : ∃ a, v = .pointer (some a) := by
  cases l with
  | nest b base size inn => exact ⟨_, h⟩
  | _ => exact absurd h id
theorem Loc.icell_form {l : Loc} {j i : Nat} {v : Value} (h : l.icell j i v) : ∃ a, v = .pointer (some a) := by
  cases l with
  | nest b base size inn =>
    simp only [Loc.icell] at h
    split at h
    · exact ⟨_, h⟩
    · exact h.elim
  | _ => exact absurd h id
theorem Loc.outer_form {l : Loc} {n : Nat} {v : Value} (h : l.outer n v) : ∃ A c, v = .slice A n c ∧ n ≤ c := by
  cases l with
  | nowhere => obtain ⟨rfl, A, rfl⟩ := h; exact ⟨A, 0, rfl, Nat.le_refl _⟩
  | nest b base size inn => exact ⟨_, size, h.1, h.2⟩
  | _ => exact absurd h id
theorem Loc.inner_form {l : Loc} {j n : Nat} {v : Value} (h : l.inner j n v) : ∃ A c, v = .slice A n c ∧ n ≤ c := by
  cases l with
  | nest b base size inn =>
    simp only [Loc.inner] at h
    split at h
    · obtain ⟨rfl, A, rfl⟩ := h; exact ⟨A, 0, rfl, Nat.le_refl _⟩
    · rename_i b' base' size' _
      exact ⟨_, size', h.1, h.2⟩
    · exact h.elim
  | _ => exact absurd h id
theorem Loc.recs_form {l : Loc} {sz n : Nat} {v : Value} (h : l.recs sz n v) : ∃ A c, v = .slice A n c ∧ n ≤ c := by
  cases l with
  | nowhere => obtain ⟨rfl, A, rfl⟩ := h; exact ⟨A, 0, rfl, Nat.le_refl _⟩
  | at_ b base size => obtain ⟨c, e, h1, _⟩ := h; exact ⟨_, c, e, h1⟩
  | _ => exact absurd h id
theorem Loc.cell_form {l : Loc} {o : Nat} {v : Value} (h : l.cell o v) : ∃ a, v = .pointer (some a) := by
  cases l with
  | at_ b base size => exact ⟨_, h⟩
  | _ => exact absurd h id
def mu0 : Nat → Option Loc := fun _ => none
mutual
def Rep (w : World) (M : Nat → Prop) (mu : Nat → Option Loc) : D → Value → Prop
  | .any, _ => True
  | .und, v => v = undef
  | .nil k, v => ∃ A, v = .slice A 0 0 ∧ (k = .unk → A = none)
  | .bool b, v => v = .bool b
  | .int k n, v => v = .int k n
  | .str s, v => v = .string s
  | .fn f cap, v => ∃ cv : List Value, v = .func (.func f) #[] cv.toArray ∧ RepL w M mu cap cv
  | .immI k xs, v => SlV w M (intsV k xs) v
  | .immB xs, v => SlV w M (boolsV xs) v
  | .imm2 k xss, v => ∃ cv, All2 (fun xs u => SlV w M (intsV k xs) u) xss cv ∧ SlV w M cv v
  | .immG els, v => ∃ cv, RepL w M mu0 els cv ∧ (∀ u ∈ cv, u.oneCell' = true) ∧ SlV w M cv v
  | .immR sh ps, v => ∃ A c cv, v = .slice A ps.length c ∧ ps.length ≤ c ∧ rcdsRep w M sh ps cv ∧ Held w M A cv
  | .pim cells, v => ∃ ad cv, v = .pointer (some ad) ∧ RepL w M mu0 cells cv ∧ Held w M (some ad) cv
  | .ptr r off, v => ∃ l, mu r = some l ∧ l.cell off v
  | .pel r j, v => ∃ l, mu r = some l ∧ l.cell j v
  | .rsl r off n, v => ∃ l, mu r = some l ∧ l.slice off n v
  | .mpr r, v => ∃ b, mu r = some (.mapAt b) ∧ v = .map (some b)
  | .nsl r n, v => ∃ l, mu r = some l ∧ l.outer n v
  | .nel r j n, v => ∃ l, mu r = some l ∧ l.inner j n v
  | .npe r j, v => ∃ l, mu r = some l ∧ l.ocell j v
  | .nep r j i, v => ∃ l, mu r = some l ∧ l.icell j i v
  | .rcs r sz n, v => ∃ l, mu r = some l ∧ l.recs sz n v
  | .rpe r sz i f, v => ∃ l, mu r = some l ∧ l.cell (i * sz + f) v
  | .agg cells, v => ∃ cv : List Value, v = .agg cv.toArray ∧ RepL w M mu cells cv
  | .tup vs, v => ∃ cv : List Value, v = .tuple cv.toArray ∧ RepL w M mu vs cv
def RepL (w : World) (M : Nat → Prop) (mu : Nat → Option Loc) : List D → List Value → Prop
  | [], [] => True
  | d :: ds, v :: vs => Rep w M mu d v ∧ RepL w M mu ds vs
  | _, _ => False
end
structure Keeps (M : Nat → Prop) (w w' : World) : Prop where
  os : w'.os = w.os
  tape : w'.tape = w.tape
  output : w'.output = w.output
  size : w.heap.size ≤ w'.heap.size
  block : ∀ b, b < w.heap.size → ¬ M b → w'.heap[b]? = w.heap[b]?
theorem Keeps.refl (M : Nat → Prop) (w : World) : Keeps M w w := ⟨rfl, rfl, rfl, Nat.le_refl _, fun _ _ _ => rfl⟩
theorem Keeps.trans {M : Nat → Prop} {a b c : World} (h : Keeps M a b) (k : Keeps M b c) : Keeps M a c :=
  ⟨k.os.trans h.os, k.tape.trans h.tape, k.output.trans h.output, Nat.le_trans h.size k.size, fun i hi hm => (k.block i (Nat.lt_of_lt_of_le hi h.size) hm).trans (h.block i hi hm)⟩
theorem Keeps.mono {M M' : Nat → Prop} {a b : World} (h : Keeps M a b) (hm : ∀ i, i < a.heap.size → M i → M' i) : Keeps M' a b :=
  ⟨h.os, h.tape, h.output, h.size, fun i hi hn => h.block i hi fun hh => hn (hm i hi hh)⟩
theorem Keeps.drew (M : Nat → Prop) (w : World) : Keeps M w w.drew := ⟨rfl, rfl, rfl, Nat.le_refl _, fun _ _ _ => rfl⟩
theorem Keeps.cell {M : Nat → Prop} {w w' : World} (h : Keeps M w w') {a : Addr} {v : Value} (hc : w.cell? a = some v) (hm : ¬ M a.block) : w'.cell? a = some v := by
  have hb := World.block_lt_of_cell? w a hc
  have := h.block a.block hb hm
  rw [← hc]
  exact World.cell?_of_block this
theorem z3b (a : Addr) (j : Nat) : (a.add j).block = a.block := by unfold Addr.add; split <;> rfl
theorem Held.keeps {w w' : World} {M M' : Nat → Prop} {A : Option Addr} {cv : List Value} (h : Held w M A cv) (hk : Keeps M w w') (hm : ∀ b, b < w.heap.size → M' b → M b) : Held w' M' A cv := by
  rcases h with h | ⟨ad, e, hn, hc⟩
  · exact .inl h
  · by_cases h0 : cv = []
    · exact .inl h0
    · refine .inr ⟨ad, e, ?_, ?_⟩
      · intro hh
        refine hn (hm _ ?_ hh)
        have hp : 0 < cv.length := by cases cv with | nil => exact absurd rfl h0 | cons => simp
        have h1 := hc 0 hp
        rw [List.getElem?_eq_getElem hp] at h1
        have := World.block_lt_of_cell? w _ h1
        rwa [z3b] at this
      · intro j hj
        have h1 := hc j hj
        rw [List.getElem?_eq_getElem hj] at h1 ⊢
        exact hk.cell h1 (by rwa [z3b])
theorem SlV.keeps {w w' : World} {M M' : Nat → Prop} {cv : List Value} {v : Value} (h : SlV w M cv v) (hk : Keeps M w w') (hm : ∀ b, b < w.heap.size → M' b → M b) : SlV w' M' cv v := by
  obtain ⟨A, c, e, hl, hh⟩ := h
  exact ⟨A, c, e, hl, hh.keeps hk hm⟩
theorem All2.imp {α β : Type} {R R' : α → β → Prop} (h : ∀ a b, R a b → R' a b) : ∀ {as : List α} {bs : List β}, All2 R as bs → All2 R' as bs
  | [], [], _ => trivial
  | a :: as, b :: bs, h' => ⟨h _ _ h'.1, All2.imp h h'.2⟩
theorem All2.length {α β : Type} {R : α → β → Prop} : ∀ {as : List α} {bs : List β}, All2 R as bs → as.length = bs.length
  | [], [], _ => rfl
  | a :: as, b :: bs, h' => by simp [All2.length h'.2]
theorem RepL.length {w : World} {M : Nat → Prop} {mu : Nat → Option Loc} : ∀ {ds : List D} {vs : List Value}, RepL w M mu ds vs → ds.length = vs.length
  | [], [], _ => rfl
  | d :: ds, v :: vs, h => by simp only [RepL] at h; simp [RepL.length h.2]
theorem rcdRep.keeps {w w' : World} {M M' : Nat → Prop} (hk : Keeps M w w') (hm : ∀ b, b < w.heap.size → M' b → M b) : ∀ {fs : List FK} {p : Rcd} {vs : List Value}, rcdRep w M fs p vs → rcdRep w' M' fs p vs
  | [], _, [], _ => trivial
  | [], _, _ :: _, h => by simp [rcdRep] at h
  | f :: _, _, [], h => by cases f <;> simp [rcdRep] at h
  | .int k :: fs, p, v :: vs, h => ⟨h.1, rcdRep.keeps hk hm h.2⟩
  | .bool :: fs, p, v :: vs, h => ⟨h.1, rcdRep.keeps hk hm h.2⟩
  | .ints k :: fs, p, v :: vs, h => ⟨h.1.keeps hk hm, rcdRep.keeps hk hm h.2⟩
  | .ints2 k :: fs, p, v :: vs, ⟨⟨cv, h1, h2⟩, h3⟩ => ⟨⟨cv, h1.imp (fun _ _ h => h.keeps hk hm), h2.keeps hk hm⟩, rcdRep.keeps hk hm h3⟩
theorem rcdsRep.keeps {w w' : World} {M M' : Nat → Prop} (hk : Keeps M w w') (hm : ∀ b, b < w.heap.size → M' b → M b) {sh : List FK} : ∀ {ps : List Rcd} {cv : List Value}, rcdsRep w M sh ps cv → rcdsRep w' M' sh ps cv
  | [], _, h => h
  | p :: ps, _, ⟨v1, v2, e, h1, h2⟩ => ⟨v1, v2, e, h1.keeps hk hm, rcdsRep.keeps hk hm h2⟩
mutual
theorem Rep.keeps {w w' : World} {M M' : Nat → Prop} {mu mu' : Nat → Option Loc} (hk : Keeps M w w') (hm : ∀ b, b < w.heap.size → M' b → M b) (hu : ∀ r l, mu r = some l → mu' r = some l) :
    ∀ (d : D) {v : Value}, Rep w M mu d v → Rep w' M' mu' d v
  | .any, _, _ => by simp only [Rep]
  | .und, _, h => by simpa only [Rep] using h
  | .nil _, _, h => by simpa only [Rep] using h
  | .bool _, _, h => by simpa only [Rep] using h
  | .int _ _, _, h => by simpa only [Rep] using h
  | .str _, _, h => by simpa only [Rep] using h
  | .fn f cap, _, h => by
    simp only [Rep] at h ⊢
    obtain ⟨cv, e, h⟩ := h
    exact ⟨cv, e, RepL.keeps hk hm hu cap h⟩
  | .immI k xs, _, h => by simp only [Rep] at h ⊢; exact h.keeps hk hm
  | .immB xs, _, h => by simp only [Rep] at h ⊢; exact h.keeps hk hm
  | .imm2 k xss, _, h => by
    simp only [Rep] at h ⊢
    obtain ⟨cv, h1, h2⟩ := h
    exact ⟨cv, h1.imp (fun _ _ h => h.keeps hk hm), h2.keeps hk hm⟩
  | .immG els, _, h => by
    simp only [Rep] at h ⊢
    obtain ⟨cv, h1, h2, h3⟩ := h
    exact ⟨cv, RepL.keeps hk hm (fun _ _ h => h) els h1, h2, h3.keeps hk hm⟩
  | .immR sh ps, _, h => by
    simp only [Rep] at h ⊢
    obtain ⟨A, c, cv, e, h1, h2, h3⟩ := h
    exact ⟨A, c, cv, e, h1, h2.keeps hk hm, h3.keeps hk hm⟩
  | .pim cells, _, h => by
    simp only [Rep] at h ⊢
    obtain ⟨ad, cv, e, h1, h2⟩ := h
    exact ⟨ad, cv, e, RepL.keeps hk hm (fun _ _ h => h) cells h1, h2.keeps hk hm⟩
  | .ptr r off, _, h => by
    simp only [Rep] at h ⊢
    obtain ⟨l, e, h⟩ := h
    exact ⟨l, hu _ _ e, h⟩
  | .pel r off, _, h => by
    simp only [Rep] at h ⊢
    obtain ⟨l, e, h⟩ := h
    exact ⟨l, hu _ _ e, h⟩
  | .rsl r off n, _, h => by
    simp only [Rep] at h ⊢
    obtain ⟨l, e, h⟩ := h
    exact ⟨l, hu _ _ e, h⟩
  | .mpr r, _, h => by
    simp only [Rep] at h ⊢
    obtain ⟨b, e, h⟩ := h
    exact ⟨b, hu _ _ e, h⟩
  | .nsl r n, _, h => by
    simp only [Rep] at h ⊢
    obtain ⟨l, e, h⟩ := h
    exact ⟨l, hu _ _ e, h⟩
  | .nel r j n, _, h => by
    simp only [Rep] at h ⊢
    obtain ⟨l, e, h⟩ := h
    exact ⟨l, hu _ _ e, h⟩
  | .npe r j, _, h => by
    simp only [Rep] at h ⊢
    obtain ⟨l, e, h⟩ := h
    exact ⟨l, hu _ _ e, h⟩
  | .nep r j i, _, h => by
    simp only [Rep] at h ⊢
    obtain ⟨l, e, h⟩ := h
    exact ⟨l, hu _ _ e, h⟩
  | .rcs r sz n, _, h => by
    simp only [Rep] at h ⊢
    obtain ⟨l, e, h⟩ := h
    exact ⟨l, hu _ _ e, h⟩
  | .rpe r sz i f, _, h => by
    simp only [Rep] at h ⊢
    obtain ⟨l, e, h⟩ := h
    exact ⟨l, hu _ _ e, h⟩
  | .agg cells, _, h => by
    simp only [Rep] at h ⊢
    obtain ⟨cv, e, h⟩ := h
    exact ⟨cv, e, RepL.keeps hk hm hu cells h⟩
  | .tup vs, _, h => by
    simp only [Rep] at h ⊢
    obtain ⟨cv, e, h⟩ := h
    exact ⟨cv, e, RepL.keeps hk hm hu vs h⟩
theorem RepL.keeps {w w' : World} {M M' : Nat → Prop} {mu mu' : Nat → Option Loc} (hk : Keeps M w w') (hm : ∀ b, b < w.heap.size → M' b → M b) (hu : ∀ r l, mu r = some l → mu' r = some l) :
    ∀ (ds : List D) {vs : List Value}, RepL w M mu ds vs → RepL w' M' mu' ds vs
  | [], [], _ => by simp only [RepL]
  | [], _ :: _, h => by simp only [RepL] at h
  | _ :: _, [], h => by simp only [RepL] at h
  | d :: ds, v :: vs, h => by
    simp only [RepL] at h ⊢
    exact ⟨Rep.keeps hk hm hu d h.1, RepL.keeps hk hm hu ds h.2⟩
end
mutual
def D.ren (f : Nat → Option Nat) : D → D
  | .ptr r o => match f r with | some i => .ptr i o | none => .any
  | .pel r o => match f r with | some i => .pel i o | none => .any
  | .rsl r o n => match f r with | some i => .rsl i o n | none => .any
  | .mpr r => match f r with | some i => .mpr i | none => .any
  | .nsl r n => match f r with | some i => .nsl i n | none => .any
  | .nel r j n => match f r with | some i => .nel i j n | none => .any
  | .npe r j => match f r with | some i => .npe i j | none => .any
  | .nep r j k => match f r with | some i => .nep i j k | none => .any
  | .rcs r sz n => match f r with | some i => .rcs i sz n | none => .any
  | .rpe r sz j o => match f r with | some i => .rpe i sz j o | none => .any
  | .fn g cap => .fn g (D.renL f cap)
  | .agg cs => .agg (D.renL f cs)
  | .tup vs => .tup (D.renL f vs)
  | .any => .any | .und => .und | .nil k => .nil k | .bool b => .bool b | .int k n => .int k n | .str s => .str s
  | .immI k xs => .immI k xs | .immB xs => .immB xs | .imm2 k xss => .imm2 k xss | .immG els => .immG els | .immR sh ps => .immR sh ps | .pim cells => .pim cells
def D.renL (f : Nat → Option Nat) : List D → List D
  | [] => []
  | d :: ds => d.ren f :: D.renL f ds
end
mutual
theorem Rep.ren {w : World} {M : Nat → Prop} {mu mu' : Nat → Option Loc} {f : Nat → Option Nat} (hf : ∀ r i, f r = some i → mu' i = mu r) : ∀ (d : D) {v : Value}, Rep w M mu d v → Rep w M mu' (d.ren f) v
  | .any, _, _ => by simp only [D.ren, Rep]
  | .und, _, h => by simpa only [D.ren, Rep] using h
  | .nil _, _, h => by simpa only [D.ren, Rep] using h
  | .bool _, _, h => by simpa only [D.ren, Rep] using h
  | .int _ _, _, h => by simpa only [D.ren, Rep] using h
  | .str _, _, h => by simpa only [D.ren, Rep] using h
  | .fn g cap, _, h => by
    simp only [D.ren, Rep] at h ⊢
    obtain ⟨cv, e, h⟩ := h
    exact ⟨cv, e, RepL.ren hf cap h⟩
  | .immI k xs, _, h => by simpa only [D.ren, Rep] using h
  | .immB xs, _, h => by simpa only [D.ren, Rep] using h
  | .imm2 k xss, _, h => by simpa only [D.ren, Rep] using h
  | .immG els, _, h => by simpa only [D.ren, Rep] using h
  | .immR sh ps, _, h => by simpa only [D.ren, Rep] using h
  | .pim cells, _, h => by simpa only [D.ren, Rep] using h
  | .ptr r off, _, h => by
    cases e : f r with
    | none => simp only [D.ren, e, Rep]
    | some i => simp only [D.ren, e, Rep] at h ⊢; rw [hf r i e]; exact h
  | .pel r off, _, h => by
    cases e : f r with
    | none => simp only [D.ren, e, Rep]
    | some i => simp only [D.ren, e, Rep] at h ⊢; rw [hf r i e]; exact h
  | .rsl r off n, _, h => by
    cases e : f r with
    | none => simp only [D.ren, e, Rep]
    | some i => simp only [D.ren, e, Rep] at h ⊢; rw [hf r i e]; exact h
  | .mpr r, _, h => by
    cases e : f r with
    | none => simp only [D.ren, e, Rep]
    | some i => simp only [D.ren, e, Rep] at h ⊢; rw [hf r i e]; exact h
  | .nsl r n, _, h => by
    cases e : f r with
    | none => simp only [D.ren, e, Rep]
    | some i => simp only [D.ren, e, Rep] at h ⊢; rw [hf r i e]; exact h
  | .nel r j n, _, h => by
    cases e : f r with
    | none => simp only [D.ren, e, Rep]
    | some i => simp only [D.ren, e, Rep] at h ⊢; rw [hf r i e]; exact h
  | .npe r j, _, h => by
    cases e : f r with
    | none => simp only [D.ren, e, Rep]
    | some i => simp only [D.ren, e, Rep] at h ⊢; rw [hf r i e]; exact h
  | .nep r j _, _, h => by
    cases e : f r with
    | none => simp only [D.ren, e, Rep]
    | some i => simp only [D.ren, e, Rep] at h ⊢; rw [hf r i e]; exact h
  | .rcs r _ _, _, h => by
    cases e : f r with
    | none => simp only [D.ren, e, Rep]
    | some i => simp only [D.ren, e, Rep] at h ⊢; rw [hf r i e]; exact h
  | .rpe r _ _ _, _, h => by
    cases e : f r with
    | none => simp only [D.ren, e, Rep]
    | some i => simp only [D.ren, e, Rep] at h ⊢; rw [hf r i e]; exact h
  | .agg cells, _, h => by
    simp only [D.ren, Rep] at h ⊢
    obtain ⟨cv, e, h⟩ := h
    exact ⟨cv, e, RepL.ren hf cells h⟩
  | .tup vs, _, h => by
    simp only [D.ren, Rep] at h ⊢
    obtain ⟨cv, e, h⟩ := h
    exact ⟨cv, e, RepL.ren hf vs h⟩
theorem RepL.ren {w : World} {M : Nat → Prop} {mu mu' : Nat → Option Loc} {f : Nat → Option Nat} (hf : ∀ r i, f r = some i → mu' i = mu r) : ∀ (ds : List D) {vs : List Value}, RepL w M mu ds vs → RepL w M mu' (D.renL f ds) vs
  | [], [], _ => by simp only [D.renL, RepL]
  | [], _ :: _, h => by simp only [RepL] at h
  | _ :: _, [], h => by simp only [RepL] at h
  | d :: ds, v :: vs, h => by
    simp only [D.renL, RepL] at h ⊢
    exact ⟨Rep.ren hf d h.1, RepL.ren hf ds h.2⟩
end
theorem RepL.get {w : World} {M : Nat → Prop} {mu : Nat → Option Loc} : ∀ {ds : List D} {vs : List Value}, RepL w M mu ds vs → ∀ (i : Nat) (d : D), ds[i]? = some d → ∃ v, vs[i]? = some v ∧ Rep w M mu d v
  | [], [], _, i, d, e => by simp at e
  | d :: ds, v :: vs, h, 0, d', e => by simp only [RepL] at h; simp at e; subst e; exact ⟨v, by simp, h.1⟩
  | d :: ds, v :: vs, h, i + 1, d', e => by simp only [RepL] at h; simpa using RepL.get h.2 i d' (by simpa using e)
theorem RepL.append {w : World} {M : Nat → Prop} {mu : Nat → Option Loc} : ∀ {ds ds' : List D} {vs vs' : List Value}, RepL w M mu ds vs → RepL w M mu ds' vs' → RepL w M mu (ds ++ ds') (vs ++ vs')
  | [], _, [], _, _, h => by simpa using h
  | [], _, _ :: _, _, h, _ => by simp only [RepL] at h
  | _ :: _, _, [], _, h, _ => by simp only [RepL] at h
  | d :: ds, ds', v :: vs, vs', h, h' => by
    simp only [RepL, List.cons_append] at h ⊢
    exact ⟨h.1, RepL.append h.2 h'⟩
theorem RepL.take {w : World} {M : Nat → Prop} {mu : Nat → Option Loc} : ∀ (n : Nat) {ds : List D} {vs : List Value}, RepL w M mu ds vs → RepL w M mu (ds.take n) (vs.take n)
  | 0, _, _, _ => by simp [RepL]
  | n + 1, [], [], _ => by simp [RepL]
  | n + 1, [], _ :: _, h => by simp only [RepL] at h
  | n + 1, _ :: _, [], h => by simp only [RepL] at h
  | n + 1, d :: ds, v :: vs, h => by simp only [RepL, List.take_succ_cons] at h ⊢; exact ⟨h.1, RepL.take n h.2⟩
theorem RepL.drop {w : World} {M : Nat → Prop} {mu : Nat → Option Loc} : ∀ (n : Nat) {ds : List D} {vs : List Value}, RepL w M mu ds vs → RepL w M mu (ds.drop n) (vs.drop n)
  | 0, _, _, h => by simpa using h
  | n + 1, [], [], _ => by simp [RepL]
  | n + 1, [], _ :: _, h => by simp only [RepL] at h
  | n + 1, _ :: _, [], h => by simp only [RepL] at h
  | n + 1, d :: ds, v :: vs, h => by simp only [RepL, List.drop_succ_cons] at h ⊢; exact RepL.drop n h.2
theorem RepL.set {w : World} {M : Nat → Prop} {mu : Nat → Option Loc} {d : D} {v : Value} (hd : Rep w M mu d v) : ∀ (n : Nat) {ds : List D} {vs : List Value}, RepL w M mu ds vs → RepL w M mu (ds.set n d) (vs.set n v)
  | _, [], [], _ => by simp [RepL]
  | _, [], _ :: _, h => by simp only [RepL] at h
  | _, _ :: _, [], h => by simp only [RepL] at h
  | 0, d' :: ds, v' :: vs, h => by simp only [RepL, List.set_cons_zero] at h ⊢; exact ⟨hd, h.2⟩
  | n + 1, d' :: ds, v' :: vs, h => by simp only [RepL, List.set_cons_succ] at h ⊢; exact ⟨h.1, RepL.set hd n h.2⟩
end Go.PR

end

section
namespace Go.PR
open Go
theorem ba_beq {a b : ByteArray} : (a == b) = true ↔ a = b := by
  obtain ⟨a⟩ := a
  obtain ⟨b⟩ := b
  constructor
  · intro h
    have : (a == b) = true := h
    rw [eq_of_beq this]
  · intro h
    cases h
    show (a == a) = true
    simp
def encL : List UInt8 → Nat
  | [] => 0
  | b :: bs => (b.toNat + 1) + 257 * encL bs
def decL : Nat → Nat → List UInt8
  | 0, _ => []
  | _ + 1, 0 => []
  | k + 1, n + 1 => UInt8.ofNat ((n + 1) % 257 - 1) :: decL k ((n + 1) / 257)
theorem zah : ∀ (bs : List UInt8) (k : Nat), encL bs ≤ k → decL k (encL bs) = bs
  | [], 0, _ => rfl
  | [], _ + 1, _ => rfl
  | b :: bs, 0, h => by simp only [encL] at h; omega
  | b :: bs, k + 1, h => by
    have hb := b.toNat_lt
    have e : encL (b :: bs) = (b.toNat + 257 * encL bs) + 1 := by simp only [encL]; omega
    rw [e, decL]
    have e1 : (b.toNat + 257 * encL bs + 1) % 257 - 1 = b.toNat := by
      rw [show b.toNat + 257 * encL bs + 1 = (b.toNat + 1) + 257 * encL bs by omega, Nat.add_mul_mod_self_left, Nat.mod_eq_of_lt (by omega)]
      omega
    have e2 : (b.toNat + 257 * encL bs + 1) / 257 = encL bs := by omega
    rw [e1, e2, zah bs k (by simp only [encL] at h; omega)]
    simp
def encS (s : ByteArray) : Int := (encL s.data.toList : Nat)
def decS (n : Int) : ByteArray := ⟨(decL n.toNat n.toNat).toArray⟩
theorem zff (s : ByteArray) : decS (encS s) = s := by
  unfold decS encS
  rw [Int.toNat_natCast, zah _ _ (Nat.le_refl _)]
def bytesOf (xs : List Int) : ByteArray := xs.foldl (fun r n => r.push (UInt8.ofNat n.toNat)) ByteArray.empty
inductive MK where
  | int (k : IntKind)
  | two (k : IntKind)
  | str
  deriving DecidableEq, Inhabited
inductive MV where
  | int (k : IntKind)
  | bool
  deriving DecidableEq, Inhabited
def MK.val : MK → Int × Int → Value
  | .int k, p => .int k p.1
  | .two k, p => .agg #[.int k p.1, .int k p.2]
  | .str, p => .string (decS p.1)
def MV.val : MV → Int → Value
  | .int k, x => .int k x
  | .bool, x => .bool (x != 0)
def MK.same : MK → Int × Int → Int × Int → Bool
  | .int _, p, q => p.1 == q.1
  | .two _, p, q => p.1 == q.1 && p.2 == q.2
  | .str, p, q => decS p.1 == decS q.1
abbrev MEnt := (Int × Int) × Int
def mfind (kk : MK) (key : Int × Int) : List MEnt → Nat → Option (Nat × Int)
  | [], _ => none
  | p :: es, i => if kk.same key p.1 then some (i, p.2) else mfind kk key es (i + 1)
def mget (kk : MK) (es : List MEnt) (key : Int × Int) : Option Int := (mfind kk key es 0).map (·.2)
def mset (kk : MK) (es : List MEnt) (key : Int × Int) (v : Int) : List MEnt :=
  match mfind kk key es 0 with
  | some (i, _) => es.set i (key, v)
  | none => es ++ [(key, v)]
inductive Cont where
  | mp (kk : MK) (vk : MV) (es : List MEnt)
  | ints (k : IntKind) (xs : List Int)
  | bools (xs : List Bool)
  | ints2 (k : IntKind) (xss : List (List Int))
  | gen (els : List D)
  | var (cells : List D)
  | nest (k : IntKind) (xss : List (List Int))
  | recs (sh : List FK) (ps : List Rcd)
structure Row where
  wr : Bool
  c : Cont
structure St where
  env : List D
  rows : Nat → Option Row
inductive NC where
  | int (k : IntKind) (x : Int)
  | bool (b : Bool)
  | row (k : IntKind) (xs : List Int)
def Cont.flat : Cont → Option (List NC)
  | .nest k xss => some (xss.map (.row k))
  | _ => none
abbrev In1 := Option (Nat × Nat × Nat)
def NCRep (w : World) : In1 → NC → Value → Prop
  | none, .int k x, v => v = .int k x
  | none, .bool b, v => v = .bool b
  | none, .row _ xs, v => xs = [] ∧ ∃ A, v = .slice A 0 0
  | some (b, base, size), .row k xs, v => ∃ cs T, w.heap[b]? = some (.cells cs T (0, 0)) ∧ base + size = cs.size ∧ xs.length ≤ size ∧ v = .slice (some ⟨b, base, none⟩) xs.length size ∧ ∀ j, j < xs.length → cs[base + j]? = (intsV k xs)[j]?
  | _, _, _ => False
def NestV (w : World) : List In1 → List NC → List Value → Prop
  | [], [], [] => True
  | i :: is, c :: cs, v :: vs => NCRep w i c v ∧ NestV w is cs vs
  | _, _, _ => False
def z5 (inn : List In1) : List Nat := inn.filterMap fun o => o.map (·.1)
def MapRep : Cont → Array MapEntry → Prop
  | .mp kk vk es, a => a.toList.map (fun e => (e.key, e.val)) = es.map fun p => (kk.val p.1, vk.val p.2)
  | _, _ => False
def ContRep (w : World) (M : Nat → Prop) (mu : Nat → Option Loc) : Cont → List Value → Prop
  | .mp _ _ _, cv => cv = []
  | .nest _ _, cv => cv = []
  | .ints k xs, cv => cv = intsV k xs
  | .bools xs, cv => cv = boolsV xs
  | .ints2 k xss, cv => All2 (fun xs u => SlV w M (intsV k xs) u) xss cv
  | .gen els, cv => RepL w M mu0 els cv ∧ ∀ u ∈ cv, u.oneCell' = true
  | .var cells, cv => RepL w M mu cells cv ∧ ∀ u ∈ cv, u.oneCell' = true
  | .recs sh ps, cv => rcdsRep w M sh ps cv
def Cont.ren (f : Nat → Option Nat) : Cont → Cont
  | .mp kk vk es => .mp kk vk es
  | .nest k xss => .nest k xss
  | .recs sh ps => .recs sh ps
  | .var cells => .var (D.renL f cells)
  | .ints k xs => .ints k xs
  | .bools xs => .bools xs
  | .ints2 k xss => .ints2 k xss
  | .gen els => .gen els
def Row.ren (f : Nat → Option Nat) (r : Row) : Row := ⟨r.wr, r.c.ren f⟩
theorem ContRep.keeps {w w' : World} {M M' : Nat → Prop} {mu mu' : Nat → Option Loc} (hk : Keeps M w w') (hm : ∀ b, b < w.heap.size → M' b → M b) (hu : ∀ r l, mu r = some l → mu' r = some l) {c : Cont} {cv : List Value}
    (h : ContRep w M mu c cv) : ContRep w' M' mu' c cv := by
  cases c with
  | mp kk vk es => exact h
  | nest k xss => exact h
  | ints k xs => exact h
  | bools xs => exact h
  | ints2 k xss => exact All2.imp (fun _ _ h => h.keeps hk hm) h
  | gen els => exact ⟨RepL.keeps hk hm (fun _ _ h => h) els h.1, h.2⟩
  | var cells => exact ⟨RepL.keeps hk hm hu cells h.1, h.2⟩
  | recs sh ps => exact rcdsRep.keeps hk hm h
theorem ContRep.ren {w : World} {M : Nat → Prop} {mu mu' : Nat → Option Loc} {f : Nat → Option Nat} (hf : ∀ r i, f r = some i → mu' i = mu r) {c : Cont} {cv : List Value} (h : ContRep w M mu c cv) : ContRep w M mu' (c.ren f) cv := by
  cases c with
  | mp kk vk es => exact h
  | nest k xss => exact h
  | ints k xs => exact h
  | bools xs => exact h
  | ints2 k xss => exact h
  | gen els => exact h
  | var cells => exact ⟨RepL.ren hf cells h.1, h.2⟩
  | recs sh ps => exact h
theorem rcdRep.one {w : World} {M : Nat → Prop} : ∀ {fs : List FK} {p : Rcd} {vs : List Value}, rcdRep w M fs p vs → ∀ u ∈ vs, u.oneCell' = true
  | [], _, [], _ => by simp
  | [], _, _ :: _, h => by simp [rcdRep] at h
  | f :: _, _, [], h => by cases f <;> simp [rcdRep] at h
  | .int k :: fs, p, v :: vs, h => by
    intro u hu
    rcases List.mem_cons.1 hu with rfl | hu
    · rw [h.1]; rfl
    · exact rcdRep.one h.2 u hu
  | .bool :: fs, p, v :: vs, h => by
    intro u hu
    rcases List.mem_cons.1 hu with rfl | hu
    · rw [h.1]; rfl
    · exact rcdRep.one h.2 u hu
  | .ints k :: fs, p, v :: vs, h => by
    intro u hu
    rcases List.mem_cons.1 hu with rfl | hu
    · obtain ⟨A, c, e, _⟩ := h.1; rw [e]; rfl
    · exact rcdRep.one h.2 u hu
  | .ints2 k :: fs, p, v :: vs, h => by
    intro u hu
    rcases List.mem_cons.1 hu with rfl | hu
    · obtain ⟨cv, _, A, c, e, _⟩ := h.1; rw [e]; rfl
    · exact rcdRep.one h.2 u hu
theorem rcdsRep.one {w : World} {M : Nat → Prop} {sh : List FK} : ∀ {ps : List Rcd} {cv : List Value}, rcdsRep w M sh ps cv → ∀ u ∈ cv, u.oneCell' = true
  | [], _, h, u, hu => by simp only [rcdsRep] at h; subst h; simp at hu
  | p :: ps, _, ⟨v1, v2, rfl, h1, h2⟩, u, hu => by
    rcases List.mem_append.1 hu with hu | hu
    · exact h1.one u hu
    · exact rcdsRep.one h2 u hu
theorem ContRep.one {w : World} {M : Nat → Prop} {mu : Nat → Option Loc} {c : Cont} {cv : List Value} (h : ContRep w M mu c cv) : ∀ u ∈ cv, u.oneCell' = true := by
  cases c with
  | mp kk vk es => simp only [ContRep] at h; subst h; simp
  | nest k xss => simp only [ContRep] at h; subst h; simp
  | ints k xs => simp only [ContRep] at h; subst h; intro u hu; obtain ⟨x, _, rfl⟩ := List.mem_map.1 hu; rfl
  | bools xs => simp only [ContRep] at h; subst h; intro u hu; obtain ⟨x, _, rfl⟩ := List.mem_map.1 hu; rfl
  | ints2 k xss =>
    simp only [ContRep] at h
    have : ∀ (xss : List (List Int)) (cv : List Value), All2 (fun xs u => SlV w M (intsV k xs) u) xss cv → ∀ u ∈ cv, u.oneCell' = true := by
      intro xss
      induction xss with
      | nil => intro cv h; cases cv with | nil => simp | cons => simp [All2] at h
      | cons x xss ih =>
        intro cv h
        cases cv with
        | nil => simp
        | cons v cv =>
          intro u hu
          rcases List.mem_cons.1 hu with rfl | hu
          · obtain ⟨A, c, e, _⟩ := h.1; rw [e]; rfl
          · exact ih cv h.2 u hu
    exact this xss cv h
  | gen els => exact h.2
  | var cells => exact h.2
  | recs sh ps => exact rcdsRep.one h
def RowOK (F : Nat → Prop) (w : World) (M : Nat → Prop) (mu : Nat → Option Loc) (id : Nat) (row : Row) : Prop :=
  ∃ l, mu id = some l ∧ match l with
    | .nowhere => ContRep w M mu row.c []
    | .at_ b base size => ∃ cs T cv, w.heap[b]? = some (.cells cs T (0, 0)) ∧ base + size = cs.size ∧ ContRep w M mu row.c cv ∧ cv.length ≤ size ∧
        (∀ j, j < cv.length → cs[base + j]? = cv[j]?) ∧ (row.wr = true → M b ∧ F b) ∧ (row.wr = false → ¬ M b)
    | .mapAt b => ∃ arr clock, w.heap[b]? = some (.map arr clock) ∧ MapRep row.c arr ∧ ContRep w M mu row.c [] ∧ (row.wr = true → M b ∧ F b) ∧ (row.wr = false → ¬ M b)
    | .nest b base size inn => ∃ cs T cv fl, w.heap[b]? = some (.cells cs T (0, 0)) ∧ base + size = cs.size ∧ row.c.flat = some fl ∧ NestV w inn fl cv ∧ cv.length ≤ size ∧
        (∀ j, j < cv.length → cs[base + j]? = cv[j]?) ∧ (b :: z5 inn).Nodup ∧ (row.wr = true → ∀ x ∈ b :: z5 inn, M x ∧ F x) ∧ (row.wr = false → ∀ x ∈ b :: z5 inn, ¬ M x)
def InB : Option Loc → Nat → Prop
  | some (.at_ b _ _), x => b = x
  | some (.mapAt b), x => b = x
  | some (.nest b _ _ inn), x => x ∈ b :: z5 inn
  | _, _ => False
def PB : Nat := 500000
def XB : Nat := 600000
def Pinned (i : Nat) : Prop := PB ≤ i ∧ i < XB
structure Entry where
  M : Nat → Prop
  mu : Nat → Option Loc
structure SR (G : Nat → Option D) (F : Nat → Prop) (w0 : World) (M0 : Entry) (w : World) (M : Nat → Prop) (mu : Nat → Option Loc) (tmps : Array Value) (st : St) : Prop where
  env : RepL w M mu st.env tmps.toList
  rows : ∀ id row, st.rows id = some row → RowOK F w M mu id row
  apart : ∀ i j ri rj b, i ≠ j → st.rows i = some ri → st.rows j = some rj → ri.wr = true → rj.wr = true → InB (mu i) b → InB (mu j) b → False
  keeps : Keeps F w0 w
  m1 : ∀ b, b < w0.heap.size → M b → M0.M b
  m2 : ∀ b, M0.M b → ¬ F b → M b
  mlt : ∀ b, M b → b < w.heap.size
  fr : ∀ b, w0.heap.size ≤ b → F b
  glob : ∀ g d, G g = some d → Rep w M mu0 d (.pointer (some ⟨g, 0, none⟩))
  pin : ∀ i, Pinned i → mu i = M0.mu i
theorem NCRep.keeps {w w' : World} {i : In1} {c : NC} {v : Value} (hb : ∀ b, i.map (·.1) = some b → w'.heap[b]? = w.heap[b]?) (h : NCRep w i c v) : NCRep w' i c v := by
  cases i with
  | none => cases c <;> exact h
  | some p =>
    obtain ⟨b, base, size⟩ := p
    cases c with
    | row k xs => obtain ⟨cs, T, h1, h2⟩ := h; exact ⟨cs, T, (hb b rfl).trans h1, h2⟩
    | int k x => exact h.elim
    | bool b => exact h.elim
theorem zq {inn : List In1} {b : Nat} : b ∈ z5 inn ↔ ∃ i ∈ inn, i.map (·.1) = some b := by
  simp only [z5, List.mem_filterMap]
theorem NestV.keeps {w w' : World} : ∀ {inn : List In1} {fl : List NC} {cv : List Value}, (∀ b, b ∈ z5 inn → w'.heap[b]? = w.heap[b]?) → NestV w inn fl cv → NestV w' inn fl cv
  | [], [], [], _, _ => trivial
  | i :: is, c :: cs, v :: vs, hb, h => by
    refine ⟨h.1.keeps fun b e => hb b (zq.2 ⟨i, List.mem_cons_self, e⟩), NestV.keeps (fun b e => hb b ?_) h.2⟩
    obtain ⟨o, ho, e⟩ := zq.1 e
    exact zq.2 ⟨o, List.mem_cons_of_mem _ ho, e⟩
  | [], [], _ :: _, _, h => h.elim
  | [], _ :: _, [], _, h => h.elim
  | [], _ :: _, _ :: _, _, h => h.elim
  | _ :: _, [], [], _, h => h.elim
  | _ :: _, [], _ :: _, _, h => h.elim
  | _ :: _, _ :: _, [], _, h => h.elim
theorem NCRep.lt {w : World} {i : In1} {c : NC} {v : Value} (h : NCRep w i c v) {b : Nat} (e : i.map (·.1) = some b) : b < w.heap.size := by
  cases i with
  | none => cases e
  | some p =>
    obtain ⟨b', base, size⟩ := p
    cases e
    cases c with
    | row k xs => obtain ⟨cs, T, h1, _⟩ := h; exact (Array.getElem?_eq_some_iff.1 h1).1
    | int k x => exact h.elim
    | bool b => exact h.elim
theorem NestV.lt {w : World} : ∀ {inn : List In1} {fl : List NC} {cv : List Value}, NestV w inn fl cv → ∀ b ∈ z5 inn, b < w.heap.size
  | [], [], [], _, b, hb => by simp [z5] at hb
  | i :: is, c :: cs, v :: vs, h, b, hb => by
    obtain ⟨o, ho, e⟩ := zq.1 hb
    rcases List.mem_cons.1 ho with rfl | ho
    · exact h.1.lt e
    · exact NestV.lt h.2 b (zq.2 ⟨o, ho, e⟩)
  | [], [], _ :: _, h, _, _ => h.elim
  | [], _ :: _, [], h, _, _ => h.elim
  | [], _ :: _, _ :: _, h, _, _ => h.elim
  | _ :: _, [], [], h, _, _ => h.elim
  | _ :: _, [], _ :: _, h, _, _ => h.elim
  | _ :: _, _ :: _, [], h, _, _ => h.elim
theorem NestV.at {w : World} : ∀ {inn : List In1} {fl : List NC} {cv : List Value}, NestV w inn fl cv → ∀ (j : Nat) (c : NC), fl[j]? = some c → ∃ i v, inn[j]? = some i ∧ cv[j]? = some v ∧ NCRep w i c v
  | [], [], [], _, j, c, e => by simp at e
  | i :: is, c' :: cs, v :: vs, h, 0, c, e => by simp at e; subst e; exact ⟨i, v, by simp, by simp, h.1⟩
  | i :: is, c' :: cs, v :: vs, h, j + 1, c, e => by simpa using NestV.at h.2 j c (by simpa using e)
  | [], [], _ :: _, h, _, _, _ => h.elim
  | [], _ :: _, [], h, _, _, _ => h.elim
  | [], _ :: _, _ :: _, h, _, _, _ => h.elim
  | _ :: _, [], [], h, _, _, _ => h.elim
  | _ :: _, [], _ :: _, h, _, _, _ => h.elim
  | _ :: _, _ :: _, [], h, _, _, _ => h.elim
theorem NestV.len {w : World} : ∀ {inn : List In1} {fl : List NC} {cv : List Value}, NestV w inn fl cv → inn.length = fl.length ∧ cv.length = fl.length
  | [], [], [], _ => ⟨rfl, rfl⟩
  | i :: is, c' :: cs, v :: vs, h => by simp [(NestV.len h.2).1, (NestV.len h.2).2]
  | [], [], _ :: _, h => h.elim
  | [], _ :: _, [], h => h.elim
  | [], _ :: _, _ :: _, h => h.elim
  | _ :: _, [], [], h => h.elim
  | _ :: _, [], _ :: _, h => h.elim
  | _ :: _, _ :: _, [], h => h.elim
theorem NCRep.sl {w : World} {M : Nat → Prop} {i : In1} {k : IntKind} {xs : List Int} {v : Value} (h : NCRep w i (.row k xs) v) (hb : ∀ b, i.map (·.1) = some b → ¬ M b) : SlV w M (intsV k xs) v := by
  cases i with
  | none => obtain ⟨rfl, A, rfl⟩ := h; exact ⟨A, 0, rfl, Nat.le_refl _, .inl rfl⟩
  | some p =>
    obtain ⟨b, base, size⟩ := p
    obtain ⟨cs, T, h1, h2, h3, rfl, h4⟩ := h
    refine ⟨some ⟨b, base, none⟩, size, by simp [intsV], by simpa [intsV] using h3, .inr ⟨⟨b, base, none⟩, rfl, hb b rfl, fun j hj => ?_⟩⟩
    have hj' : j < xs.length := by simpa [intsV] using hj
    have := h4 j hj'
    have ea : (⟨b, base, none⟩ : Addr).add j = ⟨b, base + j, none⟩ := by unfold Addr.add; split <;> simp_all
    rw [ea]
    simp [World.cell?, h1, this]
theorem NestV.sl {w : World} {M : Nat → Prop} {k : IntKind} : ∀ {inn : List In1} {xss : List (List Int)} {cv : List Value}, NestV w inn (xss.map (.row k)) cv → (∀ b ∈ z5 inn, ¬ M b) → All2 (fun xs u => SlV w M (intsV k xs) u) xss cv
  | [], [], [], _, _ => trivial
  | i :: is, xs :: xss, v :: vs, h, hb => ⟨NCRep.sl h.1 fun b e => hb b (zq.2 ⟨i, List.mem_cons_self, e⟩), NestV.sl h.2 fun b e => hb b (by obtain ⟨o, ho, e⟩ := zq.1 e; exact zq.2 ⟨o, List.mem_cons_of_mem _ ho, e⟩)⟩
  | [], [], _ :: _, h, _ => h.elim
  | [], _ :: _, [], h, _ => h.elim
  | [], _ :: _, _ :: _, h, _ => h.elim
  | _ :: _, [], [], h, _ => h.elim
  | _ :: _, [], _ :: _, h, _ => h.elim
  | _ :: _, _ :: _, [], h, _ => h.elim
theorem Cont.flat_ren (c : Cont) (f : Nat → Option Nat) : (c.ren f).flat = c.flat := by cases c <;> rfl
theorem RowOK.keeps {F : Nat → Prop} {w w' : World} {M M' : Nat → Prop} {mu mu' : Nat → Option Loc} {id : Nat} {row : Row} (h : RowOK F w M mu id row) (hk : Keeps M w w') (hm : ∀ b, b < w.heap.size → M' b → M b)
    (hu : ∀ r l, mu r = some l → mu' r = some l) (hb : ∀ b, InB (mu id) b → row.wr = true → w'.heap[b]? = w.heap[b]? ∧ M' b) : RowOK F w' M' mu' id row := by
  obtain ⟨l, e, h⟩ := h
  refine ⟨l, hu _ _ e, ?_⟩
  cases l with
  | nowhere => exact h.keeps hk hm hu
  | at_ b base size =>
    obtain ⟨cs, T, cv, h1, h2, h3, h4, h5, h6, h7⟩ := h
    have hlt : b < w.heap.size := (Array.getElem?_eq_some_iff.1 h1).1
    cases hmu : row.wr with
    | true =>
      obtain ⟨hb1, hb2⟩ := hb b (by rw [e]; rfl) hmu
      exact ⟨cs, T, cv, hb1.trans h1, h2, h3.keeps hk hm hu, h4, h5, fun _ => ⟨hb2, (h6 hmu).2⟩, fun hf => Bool.noConfusion hf⟩
    | false =>
      exact ⟨cs, T, cv, (hk.block b hlt (h7 hmu)).trans h1, h2, h3.keeps hk hm hu, h4, h5, (fun hf => Bool.noConfusion hf), fun _ hM => h7 hmu (hm b hlt hM)⟩
  | mapAt b =>
    obtain ⟨arr, clock, h1, h2, h3, h6, h7⟩ := h
    have hlt : b < w.heap.size := (Array.getElem?_eq_some_iff.1 h1).1
    cases hmu : row.wr with
    | true =>
      obtain ⟨hb1, hb2⟩ := hb b (by rw [e]; rfl) hmu
      exact ⟨arr, clock, hb1.trans h1, h2, h3.keeps hk hm hu, fun _ => ⟨hb2, (h6 hmu).2⟩, fun hf => Bool.noConfusion hf⟩
    | false =>
      exact ⟨arr, clock, (hk.block b hlt (h7 hmu)).trans h1, h2, h3.keeps hk hm hu, (fun hf => Bool.noConfusion hf), fun _ hM => h7 hmu (hm b hlt hM)⟩
  | nest b base size inn =>
    obtain ⟨cs, T, cv, fl, h1, h2, hf, h3, h4, h5, h8, h6, h7⟩ := h
    have hlt : ∀ x ∈ b :: z5 inn, x < w.heap.size := fun x hx => by
      rcases List.mem_cons.1 hx with rfl | hx
      · exact (Array.getElem?_eq_some_iff.1 h1).1
      · exact h3.lt x hx
    cases hmu : row.wr with
    | true =>
      have hb' : ∀ x ∈ b :: z5 inn, w'.heap[x]? = w.heap[x]? ∧ M' x := fun x hx => hb x (by rw [e]; exact hx) hmu
      exact ⟨cs, T, cv, fl, (hb' b List.mem_cons_self).1.trans h1, h2, hf, h3.keeps fun x hx => (hb' x (List.mem_cons_of_mem _ hx)).1, h4, h5, h8, fun _ x hx => ⟨(hb' x hx).2, (h6 hmu x hx).2⟩, fun hf => Bool.noConfusion hf⟩
    | false =>
      have hb' : ∀ x ∈ b :: z5 inn, w'.heap[x]? = w.heap[x]? := fun x hx => hk.block x (hlt x hx) (h7 hmu x hx)
      exact ⟨cs, T, cv, fl, (hb' b List.mem_cons_self).trans h1, h2, hf, h3.keeps fun x hx => hb' x (List.mem_cons_of_mem _ hx), h4, h5, h8, (fun hf => Bool.noConfusion hf), fun _ x hx hM => h7 hmu x hx (hm x (hlt x hx) hM)⟩
theorem MapRep.ren {c : Cont} {arr : Array MapEntry} (h : MapRep c arr) (f : Nat → Option Nat) : MapRep (c.ren f) arr := by
  cases c with
  | mp kk vk es => exact h
  | nest k xss => exact h
  | _ => exact absurd h id
theorem RowOK.ren {F : Nat → Prop} {w : World} {M : Nat → Prop} {mu mu' : Nat → Option Loc} {id id' : Nat} {row : Row} {f : Nat → Option Nat} (h : RowOK F w M mu id row) (hf : ∀ r i, f r = some i → mu' i = mu r) (hid : mu' id' = mu id) : RowOK F w M mu' id' (row.ren f) := by
  obtain ⟨l, e, h⟩ := h
  refine ⟨l, hid.trans e, ?_⟩
  cases l with
  | nowhere => exact h.ren hf
  | at_ b base size =>
    obtain ⟨cs, T, cv, h1, h2, h3, h4, h5, h6, h7⟩ := h
    exact ⟨cs, T, cv, h1, h2, h3.ren hf, h4, h5, h6, h7⟩
  | mapAt b =>
    obtain ⟨arr, clock, h1, h2, h3, h6, h7⟩ := h
    exact ⟨arr, clock, h1, h2.ren f, h3.ren hf, h6, h7⟩
  | nest b base size inn =>
    obtain ⟨cs, T, cv, fl, h1, h2, hfl, h3, h4, h5, h8, h6, h7⟩ := h
    exact ⟨cs, T, cv, fl, h1, h2, (Cont.flat_ren row.c f).trans hfl, h3, h4, h5, h8, h6, h7⟩
section
variable {G : Nat → Option D} {F : Nat → Prop} {w0 w w' : World} {M0 : Entry} {M : Nat → Prop} {mu : Nat → Option Loc} {tmps : Array Value} {st : St}
theorem SR.world (h : SR G F w0 M0 w M mu tmps st) (hk : Keeps (fun _ => False) w w') : SR G F w0 M0 w' M mu tmps st where
  env := RepL.keeps (hk.mono fun _ _ h => h.elim) (fun _ _ h => h) (fun _ _ h => h) _ h.env
  rows := fun id row hr => (h.rows id row hr).keeps (hk.mono fun _ _ h => h.elim) (fun _ _ h => h) (fun _ _ h => h) fun b hb hm => by
    obtain ⟨l, e, hh⟩ := h.rows id row hr
    rw [e] at hb
    cases l with
    | nowhere => simp [InB] at hb
    | at_ b' base size =>
      simp [InB] at hb
      subst hb
      obtain ⟨cs, T, cv, h1, h2, h3, h4, h5, h6, h7⟩ := hh
      exact ⟨hk.block _ (Array.getElem?_eq_some_iff.1 h1).1 (fun h => h), (h6 hm).1⟩
    | mapAt b' =>
      simp [InB] at hb
      subst hb
      obtain ⟨arr, clock, h1, h2, h3, h6, h7⟩ := hh
      exact ⟨hk.block _ (Array.getElem?_eq_some_iff.1 h1).1 (fun h => h), (h6 hm).1⟩
    | nest b' base size inn =>
      obtain ⟨cs, T, cv, fl, h1, h2, hfl, h3, h4, h5, h8, h6, h7⟩ := hh
      have hb' : b ∈ b' :: z5 inn := hb
      refine ⟨hk.block _ ?_ (fun h => h), (h6 hm b hb').1⟩
      rcases List.mem_cons.1 hb' with rfl | hx
      · exact (Array.getElem?_eq_some_iff.1 h1).1
      · exact h3.lt b hx
  apart := h.apart
  keeps := h.keeps.trans (hk.mono fun _ _ h => h.elim)
  m1 := h.m1
  m2 := h.m2
  mlt := fun b hb => Nat.lt_of_lt_of_le (h.mlt b hb) hk.size
  fr := h.fr
  glob := fun g d hg => Rep.keeps (hk.mono fun _ _ h => h.elim) (fun _ _ h => h) (fun _ _ h => h) d (h.glob g d hg)
  pin := h.pin
theorem zp7 (a : Array Value) (t : Nat) (v : Value) : (a.setIfInBounds t v).toList = a.toList.set t v := by simp
theorem SR.put (h : SR G F w0 M0 w M mu tmps st) {d : D} {v : Value} (hd : Rep w M mu d v) (t : Nat) : SR G F w0 M0 w M mu (tmps.setIfInBounds t v) { st with env := st.env.set t d } :=
  { h with env := by rw [zp7]; exact RepL.set hd t h.env }
theorem SR.get (h : SR G F w0 M0 w M mu tmps st) (t : Nat) : Rep w M mu (st.env.getD t .any) (tmps.getD t undef) := by
  by_cases ht : t < st.env.length
  · have e : st.env[t]? = some st.env[t] := List.getElem?_eq_getElem ht
    obtain ⟨v, hv, hr⟩ := RepL.get h.env t _ e
    have h1 : st.env.getD t .any = st.env[t] := by simp [List.getD, e]
    have h2 : tmps.getD t undef = v := by
      rw [Array.getElem?_toList] at hv
      rw [Array.getD_eq_getD_getElem?, hv]; rfl
    rw [h1, h2]; exact hr
  · have : st.env.getD t .any = .any := by simp [List.getD, List.getElem?_eq_none (Nat.le_of_not_lt ht)]
    rw [this]; simp only [Rep]
def killF (id : Nat) : Nat → Option Nat := fun r => if r = id then none else some r
def St.drop (id : Nat) (st : St) : St := ⟨D.renL (killF id) st.env, fun i => if i = id then none else (st.rows i).map (·.ren (killF id))⟩
theorem SR.drop (h : SR G F w0 M0 w M mu tmps st) (id : Nat) : SR G F w0 M0 w M mu tmps (st.drop id) :=
  { h with
    env := RepL.ren (fun r i e => by simp only [killF] at e; split at e <;> simp_all) _ h.env
    rows := fun i row hr => by
      simp only [St.drop] at hr
      split at hr
      · cases hr
      · obtain ⟨r0, e0, rfl⟩ := Option.map_eq_some_iff.1 hr
        exact (h.rows i r0 e0).ren (fun r i e => by simp only [killF] at e; split at e <;> simp_all) rfl
    apart := fun i j ri rj b hij hi hj mi mj => by
      simp only [St.drop] at hi hj
      split at hi
      · cases hi
      · split at hj
        · cases hj
        · obtain ⟨r0, e0, rfl⟩ := Option.map_eq_some_iff.1 hi
          obtain ⟨r1, e1, rfl⟩ := Option.map_eq_some_iff.1 hj
          exact h.apart i j r0 r1 b hij e0 e1 mi mj }
def St.newRow (id : Nat) (row : Row) (st : St) : St := { (st.drop id) with rows := fun i => if i = id then some row else (st.drop id).rows i }
theorem zy (w : World) (o : Obj) : (w.alloc o).heap[w.heap.size]? = some o := by
  show (w.heap.push o)[w.heap.size]? = _
  simp
theorem Keeps.alloc (M : Nat → Prop) (w : World) (o : Obj) : Keeps M w (w.alloc o) :=
  ⟨rfl, rfl, rfl, by simp, fun b hb _ => Go.RowKit.Below.heap_alloc _ _ _ hb⟩
end
end Go.PR

end

section
namespace Go.PR
open Go
inductive TK where
  | int (k : IntKind) | bool | str | slice (elem : TypeId) | struct (fields : List (Nat × TypeId)) | array (n : Nat) (elem : TypeId) | map (key elem : TypeId) | other
structure TI where
  kind : TK
  size : Nat
  bytes : Nat
  zero : List D
def TI.agg (i : TI) : Bool := match i.kind with | .struct _ | .array _ _ => true | _ => false
structure Hint where
  temps : List Nat
  rows : List Nat
  out : List Nat
structure Ret where
  res : D
  passed : List (Option Row)
  out : List Row
structure Ctx where
  tt : TypeId → Option TI
  glob : Nat → Option D
  ft : FuncId → Option Func
  byref : FuncId → Bool
  keep : FuncId → Nat → Option Hint
  prim : FuncId → List D → List Row → Option Ret
  nilPos : String → Bool
  nestPos : String → Bool
def Cont.len : Cont → Nat
  | .ints _ xs => xs.length
  | .bools xs => xs.length
  | .ints2 _ xss => xss.length
  | .gen els => els.length
  | .var cells => cells.length
  | .mp _ _ _ => 0
  | .nest _ _ => 0
  | .recs sh ps => ps.length * sh.length
def subL {α : Type} (xs : List α) (off n : Nat) : List α := if off = 0 ∧ n = xs.length then xs else (xs.drop off).take n
def Cont.imm (off n : Nat) : Cont → Option D
  | .ints k xs => some (.immI k (subL xs off n))
  | .bools xs => some (.immB (subL xs off n))
  | .ints2 k xss => some (.imm2 k (subL xss off n))
  | .gen els => some (.immG (subL els off n))
  | .var _ => none
  | .mp _ _ _ => none
  | .nest _ _ => none
  | .recs _ _ => none
def D.cont : D → Option Cont
  | .immI k xs => some (.ints k xs)
  | .immB xs => some (.bools xs)
  | .imm2 k xss => some (.ints2 k xss)
  | .immG els => some (.gen els)
  | _ => none
def Cont.get : Cont → Nat → Option D
  | .ints k xs, i => if i < xs.length then some (.int k (xs.getD i 0)) else none
  | .bools xs, i => if i < xs.length then some (.bool (xs.getD i false)) else none
  | .ints2 k xss, i => if i < xss.length then some (.immI k (xss.getD i [])) else none
  | .gen els, i => els[i]?
  | .var cells, i => cells[i]?
  | .mp _ _ _, _ => none
  | .nest _ _, _ => none
  | .recs _ _, _ => none
def Cont.isVar : Cont → Bool
  | .var _ => true
  | .mp _ _ _ => true
  | .nest _ _ => true
  | .recs _ _ => true
  | _ => false
def D.plain : D → Bool
  | .bool _ | .int _ _ | .str _ | .immI _ _ | .immB _ | .imm2 _ _ | .immG _ | .nil _ | .pim _ => true
  | _ => false
def Cont.set : Cont → Nat → D → Option Cont
  | .ints k xs, i, .int k' n => if k = k' ∧ i < xs.length then some (.ints k (xs.set i n)) else none
  | .bools xs, i, .bool b => if i < xs.length then some (.bools (xs.set i b)) else none
  | .ints2 k xss, i, .immI k' xs => if k = k' ∧ i < xss.length then some (.ints2 k (xss.set i xs)) else none
  | .ints2 k xss, i, .nil _ => if i < xss.length then some (.ints2 k (xss.set i [])) else none
  | .gen els, i, d => if d.plain ∧ i < els.length then some (.gen (els.set i d)) else none
  | _, _, _ => none
def Cont.one (e : TK) (e2 : Option TK) (d : D) : Option Cont :=
  match e, e2, d with
  | .int k, _, .int k' n => if k = k' then some (.ints k [n]) else none
  | .bool, _, .bool b => some (.bools [b])
  | .slice _, some (.int k), .immI k' xs => if k = k' then some (.ints2 k [xs]) else none
  | .slice _, some (.int k), .nil _ => some (.ints2 k [[]])
  | .int _, _, _ | .bool, _, _ | .slice _, some (.int _), _ => none
  | _, _, d => if d.plain then some (.gen [d]) else none
def Cont.empty (e : TK) (e2 : Option TK) : Cont :=
  match e, e2 with
  | .int k, _ => .ints k []
  | .bool, _ => .bools []
  | .slice _, some (.int k) => .ints2 k []
  | _, _ => .gen []
def Cont.zeros (e : TK) (e2 : Option TK) (n : Nat) : Option Cont :=
  match e, e2 with
  | .int k, _ => some (.ints k (List.replicate n 0))
  | .bool, _ => some (.bools (List.replicate n false))
  | .slice _, some (.int k) => some (.ints2 k (List.replicate n []))
  | _, _ => none
def Cont.app : Cont → Cont → Option Cont
  | .ints k xs, .ints k' ys => if k = k' then some (.ints k (xs ++ ys)) else none
  | .bools xs, .bools ys => some (.bools (xs ++ ys))
  | .ints2 k xs, .ints2 k' ys => if k = k' then some (.ints2 k (xs ++ ys)) else none
  | .gen xs, .gen ys => some (.gen (xs ++ ys))
  | _, _ => none
def Cont.sub (off n : Nat) : Cont → Option Cont
  | .ints k xs => some (.ints k (subL xs off n))
  | .bools xs => some (.bools (subL xs off n))
  | .ints2 k xss => some (.ints2 k (subL xss off n))
  | .gen els => some (.gen (subL els off n))
  | .var _ => none
  | .mp _ _ _ => none
  | .nest _ _ => none
  | .recs _ _ => none
mutual
def D.refs : D → List Nat
  | .ptr r _ => [r]
  | .pel r _ => [r]
  | .rsl r _ _ => [r]
  | .mpr r => [r]
  | .nsl r _ => [r]
  | .nel r _ _ => [r]
  | .npe r _ => [r]
  | .nep r _ _ => [r]
  | .rcs r _ _ => [r]
  | .rpe r _ _ _ => [r]
  | .fn _ cap => D.refsL cap
  | .agg cs => D.refsL cs
  | .tup vs => D.refsL vs
  | _ => []
def D.refsL : List D → List Nat
  | [] => []
  | d :: ds => d.refs ++ D.refsL ds
end
mutual
def D.noImm : D → Bool
  | .immI _ _ | .immB _ | .imm2 _ _ | .immG _ | .immR _ _ | .pim _ => false
  | .fn _ cap => D.noImmL cap
  | .agg cs => D.noImmL cs
  | .tup vs => D.noImmL vs
  | _ => true
def D.noImmL : List D → Bool
  | [] => true
  | d :: ds => d.noImm && D.noImmL ds
end
def Cont.refs : Cont → List Nat
  | .var cells => D.refsL cells
  | _ => []
def Cont.noImm : Cont → Bool
  | .ints _ _ | .bools _ | .mp _ _ _ | .nest _ _ => true
  | .var cells => D.noImmL cells
  | _ => false
def mapO {α β : Type} (f : α → Option β) : List α → Option (List β)
  | [] => some []
  | a :: as => match f a, mapO f as with
    | some b, some bs => some (b :: bs)
    | _, _ => none
def reify (rows : Nat → Option Row) (Z : List Nat) : Nat → D → Option D
  | 0, _ => none
  | n + 1, d => match d with
    | .any => some .any | .und => some .und | .nil k => some (.nil k) | .bool b => some (.bool b) | .int k x => some (.int k x) | .str s => some (.str s)
    | .immI k xs => some (.immI k xs) | .immB xs => some (.immB xs) | .imm2 k xss => some (.imm2 k xss) | .immG els => some (.immG els) | .immR sh ps => some (.immR sh ps) | .pim cells => some (.pim cells)
    | .fn f cap => (mapO (reify rows Z n) cap).map (.fn f)
    | .agg cs => (mapO (reify rows Z n) cs).map .agg
    | .tup vs => (mapO (reify rows Z n) vs).map .tup
    | .rsl r off m => if Z.contains r then match rows r with
      | some row => if off + m ≤ row.c.len then row.c.imm off m else none
      | none => none else none
    | .ptr r off => if Z.contains r then match rows r with
      | some ⟨_, .var cells⟩ => (mapO (reify rows Z n) (cells.drop off)).map .pim
      | _ => none else none
    | .pel r j => if Z.contains r then match rows r with
      | some row => if row.c.isVar then none else (row.c.get j).map fun d => .pim [d]
      | none => none else none
    | .mpr _ => none
    | .npe _ _ => none
    | .nep _ _ _ => none
    | .nsl r m => if Z.contains r then match rows r with
      | some ⟨_, .nest k xss⟩ => if m = xss.length then some (.imm2 k xss) else none
      | _ => none else none
    | .nel r j m => if Z.contains r then match rows r with
      | some ⟨_, .nest k xss⟩ => match xss[j]? with
        | some xs => if m = xs.length then some (.immI k xs) else none
        | none => none
      | _ => none else none
    | .rcs r sz m => if Z.contains r then match rows r with
      | some ⟨_, .recs sh ps⟩ => if sz = sh.length ∧ m = ps.length then some (.immR sh ps) else none
      | _ => none else none
    | .rpe _ _ _ _ => none
def dedup (l : List Nat) : List Nat := l.foldl (fun acc x => if acc.contains x then acc else acc ++ [x]) []
def refsOf (rows : Nat → Option Row) (ids : List Nat) : List Nat := ids ++ (ids.map fun i => match rows i with | some r => r.c.refs | none => []).flatten
def reach (rows : Nat → Option Row) (ds : List D) : List Nat := dedup (refsOf rows (dedup (refsOf rows (dedup (D.refsL ds)))))
def St.freeze (Z : List Nat) (st : St) : St := { st with rows := fun i => match st.rows i with | some r => if Z.contains i then some ⟨false, r.c⟩ else some r | none => none }
def mvF (a b : Nat) : Nat → Option Nat := fun r => if r = a then some b else if r = b then none else some r
def St.move (a b : Nat) (st : St) : St := ⟨D.renL (mvF a b) st.env, fun i => if i = b then (st.rows a).map (·.ren (mvF a b)) else if i = a then none else (st.rows i).map (·.ren (mvF a b))⟩
def St.forget (r : Nat) (st : St) : St := { st with rows := fun i => if i = r then none else st.rows i }
def St.setRow (id : Nat) (row : Row) (st : St) : St := { st with rows := fun i => if i = id then some row else st.rows i }
def St.setD (dst : Option Tmp) (d : D) (st : St) : St := match dst with | some t => { st with env := st.env.set t d } | none => st
def nid (t : Nat) : Nat := 1000 + t % 10000
def xid (t i : Nat) : Nat := 1000 + t % 10000 + 10000 * (i % 40)
def home (id off : Nat) : Nat := 1000000 + 1000 * id + off
def cst : Value → D
  | .bool b => .bool b
  | .int k n => .int k n
  | .string s => .str s
  | .slice none 0 0 => .nil .unk
  | _ => .any
def ev (X : Ctx) (st : St) : Operand → D
  | .tmp t => st.env.getD t .any
  | .const v => cst v
  | .global g => (X.glob g).getD .any
  | .func f => .fn f []
def binI (op : BinOp) (k : IntKind) (x y : Int) : Option D :=
  match op with
  | .add => some (.int k (k.wrap (x + y)))
  | .sub => some (.int k (k.wrap (x - y)))
  | .mul => some (.int k (k.wrap (x * y)))
  | .quo => if y = 0 then none else some (.int k (k.wrap (x.tdiv y)))
  | .rem => if y = 0 then none else some (.int k (x.tmod y))
  | .and => some (.int k (k.wrap (BitVec.ofInt k.bits x &&& BitVec.ofInt k.bits y).toNat))
  | .or => some (.int k (k.wrap (BitVec.ofInt k.bits x ||| BitVec.ofInt k.bits y).toNat))
  | .xor => some (.int k (k.wrap (BitVec.ofInt k.bits x ^^^ BitVec.ofInt k.bits y).toNat))
  | .andNot => some (.int k (k.wrap (BitVec.ofInt k.bits x &&& ~~~ BitVec.ofInt k.bits y).toNat))
  | .eql => some (.bool (x == y))
  | .neq => some (.bool (x != y))
  | .lss => some (.bool (x < y))
  | .leq => some (.bool (x ≤ y))
  | .gtr => some (.bool (x > y))
  | .geq => some (.bool (x ≥ y))
  | _ => none
def shiftI (op : BinOp) (k : IntKind) (x y : Int) : Option D :=
  if y < 0 then none else
  match op with
  | .shl => some (.int k (k.wrap (x * 2 ^ min y.toNat k.bits)))
  | .shr => some (.int k (x.fdiv (2 ^ min y.toNat k.bits)))
  | _ => none
def binD (op : BinOp) (t : Option TI) (x y : D) : Option D :=
  match x, y with
  | .int k a, .int k' b => match op with
    | .shl | .shr => shiftI op k a b
    | op => if k = k' then binI op k a b else none
  | .bool a, .bool b => match op, t with
    | .eql, some ⟨.bool, _, _, _⟩ => some (.bool (a == b))
    | .neq, some ⟨.bool, _, _, _⟩ => some (.bool (!(a == b)))
    | _, _ => none
  | _, _ => none
def unD (op : UnOp) : D → Option D
  | .bool b => match op with | .not => some (.bool !b) | _ => none
  | .int k n => match op with
    | .neg => some (.int k (k.wrap (0 - n)))
    | .xor => some (.int k (k.wrap (BitVec.ofInt k.bits (if k.signed then -1 else k.max) ^^^ BitVec.ofInt k.bits n).toNat))
    | _ => none
  | _ => none
def loadL (i : TI) (cells : List D) : Option D :=
  if i.agg then (if i.size ≤ cells.length then some (.agg (cells.take i.size)) else none) else if i.size = 1 then cells[0]? else none
def cellsOf : List FK → Rcd → List D
  | [], _ => []
  | .int k :: fs, p => .int k (p.is.headD 0) :: cellsOf fs ⟨p.is.tail, p.ls, p.lls⟩
  | .bool :: fs, p => .bool (p.is.headD 0 != 0) :: cellsOf fs ⟨p.is.tail, p.ls, p.lls⟩
  | .ints k :: fs, p => .immI k (p.ls.headD []) :: cellsOf fs ⟨p.is, p.ls.tail, p.lls⟩
  | .ints2 k :: fs, p => .imm2 k (p.lls.headD []) :: cellsOf fs ⟨p.is, p.ls, p.lls.tail⟩
def rcdAt (ps : List Rcd) (j : Nat) : Rcd := ps.getD j default
def loadD (i : TI) (rows : Nat → Option Row) : D → Option D
  | .pim cells => loadL i cells
  | .ptr r off => match rows r with
    | some ⟨_, .var cells⟩ => loadL i (cells.drop off)
    | _ => none
  | .pel r j => match rows r with
    | some row => if i.agg ∨ row.c.isVar then none else if i.size = 1 then row.c.get j else none
    | none => none
  | .npe r j => match rows r with
    | some ⟨_, .nest _ xss⟩ => if i.agg = false ∧ i.size = 1 ∧ j < xss.length then some (.nel r j (xss.getD j []).length) else none
    | _ => none
  | .nep r j q => match rows r with
    | some ⟨_, .nest k xss⟩ => if i.agg = false ∧ i.size = 1 ∧ j < xss.length ∧ q < (xss.getD j []).length then some (.int k ((xss.getD j []).getD q 0)) else none
    | _ => none
  | .rpe r sz j f => match rows r with
    | some ⟨_, .recs sh ps⟩ => if sz = sh.length ∧ j < ps.length then loadL i ((cellsOf sh (rcdAt ps j)).drop f) else none
    | _ => none
  | _ => none
def z5j (X : Ctx) (i : TI) (f : Nat) (d : D) : Option D :=
  match i.kind with
  | .struct fs => match fs[f]? with
    | some (off, ft) => match X.tt ft with
      | some fi => if fi.size = 0 then none else match d with
        | .ptr r o => some (.ptr r (o + off))
        | .pim cells => some (.pim (cells.drop off))
        | .rpe r sz j o => some (.rpe r sz j (o + off))
        | _ => none
      | none => none
    | none => none
  | _ => none
def fieldD (X : Ctx) (i : TI) (f : Nat) (d : D) : Option D :=
  match i.kind, d with
  | .struct fs, .agg cells => match fs[f]? with
    | some (off, ft) => match X.tt ft with
      | some fi => if fi.agg then (if off + fi.size ≤ cells.length then some (.agg ((cells.drop off).take fi.size)) else none) else cells[off]?
      | none => none
    | none => none
  | _, _ => none
def z1k (X : Ctx) (i : TI) (x ix : D) : Option D :=
  match ix with
  | .int _ j => match i.kind, x with
    | .slice e, .rsl r off n => match X.tt e with
      | some ei => if ei.size = 1 ∧ 0 ≤ j ∧ j < n then some (.pel r (off + j.toNat)) else none
      | none => none
    | .slice e, .immR sh ps => match X.tt e with
      | some ei => if ei.size = sh.length ∧ 0 < ei.size ∧ 0 ≤ j ∧ j < ps.length then some (.pim (cellsOf sh (rcdAt ps j.toNat))) else none
      | none => none
    | .slice e, .rcs r sz n => match X.tt e with
      | some ei => if ei.size = sz ∧ 0 < sz ∧ 0 ≤ j ∧ j < n then some (.rpe r sz j.toNat 0) else none
      | none => none
    | .slice e, .nsl r n => match X.tt e with
      | some ei => if ei.size = 1 ∧ 0 ≤ j ∧ j < n then some (.npe r j.toNat) else none
      | none => none
    | .slice e, .nel r q n => match X.tt e with
      | some ei => if ei.size = 1 ∧ 0 ≤ j ∧ j < n then some (.nep r q j.toNat) else none
      | none => none
    | .slice e, x => match X.tt e, x.cont with
      | some ei, some c => if ei.size = 1 ∧ 0 ≤ j ∧ j < c.len then (c.get j.toNat).map fun d => .pim [d] else none
      | _, _ => none
    | .array n e, .pim cells => match X.tt e with
      | some ei => if 0 ≤ j ∧ j < n then some (.pim (cells.drop (j.toNat * ei.size))) else none
      | none => none
    | .array n e, .ptr r off => match X.tt e with
      | some ei => if 0 ≤ j ∧ j < n then some (.ptr r (off + j.toNat * ei.size)) else none
      | none => none
    | _, _ => none
  | _ => none
def bnd : Option D → Nat → Option Nat
  | none, d => some d
  | some (.int _ j), _ => if 0 ≤ j then some j.toNat else none
  | _, _ => none
def roomy (rows : Nat → Option Row) (r upto : Nat) : Bool :=
  match rows r with
  | some row => !row.c.isVar && decide (upto ≤ row.c.len)
  | none => false
def sliceD (X : Ctx) (i : TI) (rows : Nat → Option Row) (x : D) (lo hi mx : Option D) : Option D :=
  match i.kind with
  | .slice e => match X.tt e with
    | some ei => if ei.size = 1 then
      match mx with
      | some m => match x, lo, hi, m with     -- only a slice without room
        | .nil k, none, some (.int _ 0), .int _ 0 => some (.nil k)
        | .immI k _, none, some (.int _ 0), .int _ 0 => some (.nil (.ints k))
        | .immB _, none, some (.int _ 0), .int _ 0 => some (.nil .bools)
        | .imm2 k _, none, some (.int _ 0), .int _ 0 => some (.nil (.ints2 k))
        | .immG _, none, some (.int _ 0), .int _ 0 => some (.nil .gen)
        | .rsl _ _ n, lo, some (.int _ h), .int _ m => match bnd lo 0 with
          | some l => if (l : Int) ≤ h ∧ h ≤ m ∧ m ≤ n then some .any else none
          | none => none
        | _, _, _, _ => none
      | none => match x with
        | .rsl r off n => match bnd lo 0, bnd hi n with
          | some l, some h => if l ≤ h ∧ (h ≤ n ∨ roomy rows r (off + h) = true) then some (.rsl r (off + l) (h - l)) else none
          | _, _ => none
        | .nil k => match bnd lo 0, bnd hi 0 with
          | some 0, some 0 => some (.nil k)
          | _, _ => none
        | x => match x.cont with
          | some c => match bnd lo 0, bnd hi c.len with
            | some l, some h => if l ≤ h ∧ h ≤ c.len then c.imm l (h - l) else none
            | _, _ => none
          | none => none
      else none
    | none => none
  | _ => none
def lenD : D → Option D
  | .rsl _ _ n => some (.int .i64 n)
  | .nsl _ n => some (.int .i64 n)
  | .nel _ _ n => some (.int .i64 n)
  | .rcs _ _ n => some (.int .i64 n)
  | .nil _ => some (.int .i64 0)
  | .immR _ ps => some (.int .i64 ps.length)
  | d => d.cont.map fun c => .int .i64 c.len
def D.cells : D → List D
  | .agg cs => cs
  | d => [d]
def setCells : List D → Nat → List D → List D
  | cs, _, [] => cs
  | cs, off, v :: vs => setCells (cs.set off v) (off + 1) vs
def D.known : D → Bool
  | .any | .und => false
  | _ => true
def D.isCell : D → Bool
  | .any | .und | .agg _ | .tup _ => false
  | _ => true
def buildD (X : Ctx) (fs : List (Nat × TypeId)) : List D → List (Nat × D) → Option (List D)
  | cs, [] => some cs
  | cs, (f, d) :: rest => match fs[f]? with
    | some (off, ft) => match X.tt ft with
      | some fi => if d.known ∧ d.cells.length = fi.size ∧ off + fi.size ≤ cs.length then buildD X fs (setCells cs off d.cells) rest else none
      | none => none
    | none => none
def placesA (n size : Nat) (e : TypeId) : List (Nat × TypeId) := (List.range n).map fun i => (i * size, e)
def pickD (b : Bool) (x y : D) : D :=
  match x, y with
  | .bool p, .bool q => .bool (if b then p else q)
  | x, y => if b then x else y
def D.some? : D → Bool
  | .rsl _ _ n => decide (0 < n)
  | d => match d.cont with
    | some c => decide (0 < c.len)
    | none => false
def D.nils (d : D) : Option Bool :=
  match d with
  | .nil .unk => some true
  | d => if d.some? then some false else none
def nilD (op : BinOp) (x : D) : Option D :=
  match op, x.nils with
  | .eql, some b => some (.bool b)
  | .neq, some b => some (.bool !b)
  | _, _ => none
def binC (X : Ctx) (st : St) (op : BinOp) (t : TypeId) (x y : Operand) : Option D :=
  match y with
  | .const (.slice none 0 0) => match X.tt t with
    | some ⟨.slice _, _, _, _⟩ => nilD op (ev X st x)
    | _ => none
  | _ => binD op (X.tt t) (ev X st x) (ev X st y)
def capD : D → Option D
  | .nil _ => some (.int .i64 0)
  | _ => none
def keyK (X : Ctx) (ke : TypeId) : Option MK :=
  match X.tt ke with
  | some ⟨.int k, _, _, _⟩ => some (.int k)
  | some ⟨.str, _, _, _⟩ => some .str
  | some ⟨.array n e, _, _, _⟩ => if n = 2 then match X.tt e with
      | some ⟨.int k, _, _, _⟩ => some (.two k)
      | _ => none
    else none
  | _ => none
def elK (X : Ctx) (el : TypeId) : Option MV :=
  match X.tt el with
  | some ⟨.int k, _, _, _⟩ => some (.int k)
  | some ⟨.bool, _, _, _⟩ => some .bool
  | _ => none
def mapKV (X : Ctx) (ke el : TypeId) : Option (MK × MV) :=
  match keyK X ke, elK X el with
  | some kk, some vk => some (kk, vk)
  | _, _ => none
def keyD : MK → D → Option (Int × Int)
  | .int k, .int k' n => if k = k' then some (n, 0) else none
  | .two k, .agg [.int k' a, .int k'' b] => if k = k' ∧ k = k'' then some (a, b) else none
  | .str, .str s => some (encS s, 0)
  | _, _ => none
def elemD : MV → Int → D
  | .int k, x => .int k x
  | .bool, x => .bool (x != 0)
def b2i (b : Bool) : Int := if b then 1 else 0
def valD : MV → D → Option Int
  | .int k, .int k' n => if k = k' then some n else none
  | .bool, .bool b => some (b2i b)
  | _, _ => none
def lookupD (X : Ctx) (ke el : TypeId) (rows : Nat → Option Row) (x ix : D) (ok : Bool) : Option D :=
  match mapKV X ke el, x with
  | some (kk, vk), .mpr r => match rows r with
    | some ⟨_, .mp kk' vk' es⟩ => if kk = kk' ∧ vk = vk' then match keyD kk ix with
        | some key => some (if ok then .tup [elemD vk ((mget kk es key).getD 0), .bool (mget kk es key).isSome] else elemD vk ((mget kk es key).getD 0))
        | none => none
      else none
    | _ => none
  | _, _ => none
def mapLenD (rows : Nat → Option Row) : D → Option D
  | .mpr r => match rows r with
    | some ⟨_, .mp _ _ es⟩ => some (.int .i64 es.length)
    | _ => none
  | _ => none
def nkElem (X : Ctx) (e : TypeId) : NK :=
  match X.tt e with
  | some ⟨.int k, _, _, _⟩ => .ints k
  | some ⟨.bool, _, _, _⟩ => .bools
  | some ⟨.slice e2, _, _, _⟩ => match X.tt e2 with
    | some ⟨.int k, _, _, _⟩ => .ints2 k
    | _ => .gen
  | _ => .gen
def nkOf (X : Ctx) (t : TypeId) : NK :=
  match X.tt t with
  | some ⟨.slice e, _, _, _⟩ => nkElem X e
  | _ => .unk
def nestF (X : Ctx) : List (Nat × TypeId) → List D → List D
  | [], cs => cs
  | (off, ft) :: fs, cs => nestF X fs (match cs.getD off .any with
    | .nil _ => (match nkOf X ft with
      | .ints2 k => cs.set off (.nil (.nest k))
      | .ints k => cs.set off (.nil (.ints k))
      | .bools => cs.set off (.nil .bools)
      | _ => cs)
    | _ => cs)
def zeroF (X : Ctx) (o : Oper) (fs : List (Nat × TypeId)) (zero : List D) : List D := if X.nestPos o.pos then nestF X fs zero else zero
def strOf (rows : Nat → Option Row) : D → Option D
  | .nil _ => some (.str (bytesOf []))
  | .immI .u8 xs => some (.str (bytesOf xs))
  | .rsl r off n => match rows r with
    | some ⟨_, .ints .u8 xs⟩ => if off + n ≤ xs.length then some (.str (bytesOf (subL xs off n))) else none
    | _ => none
  | _ => none
def convS (X : Ctx) (rows : Nat → Option Row) (si di : TI) (x : D) : Option D :=
  match si.kind, di.kind with
  | .slice e, .str => match X.tt e with
    | some ⟨.int .u8, _, _, _⟩ => strOf rows x
    | _ => none
  | _, _ => none
def quiet (X : Ctx) (st : St) (o : Oper) : Option D :=
  match o.op with
  | .move x => some (ev X st x)
  | .pick c a b => match ev X st c with
    | .bool t => some (pickD t (ev X st a) (ev X st b))
    | _ => none
  | .load t a => match X.tt t with
    | some i => loadD i st.rows (ev X st a)
    | none => none
  | .nilCheck x => match ev X st x with
    | .ptr r o => some (.ptr r o)
    | .pim cs => some (.pim cs)
    | _ => none
  | .binOp op t x y _ => binC X st op t x y
  | .unOp op _ x => unD op (ev X st x)
  | .convert s d x => match X.tt s, X.tt d, ev X st x with
    | some si, some di, .int k n => match si.kind, di.kind with
      | .int _, .int k' => some (.int k' (k'.wrap n))
      | _, _ => none
    | some si, some di, x => convS X st.rows si di x
    | _, _, _ => none
  | .makeFunc (.func f) first captured => if first.size = 0 then some (.fn f (captured.toList.map (ev X st))) else none
  | .slice t x lo hi mx => match X.tt t with
    | some i => sliceD X i st.rows (ev X st x) (lo.map (ev X st)) (hi.map (ev X st)) (mx.map (ev X st))
    | none => none
  | .fieldAddr t x f => match X.tt t with
    | some i => z5j X i f (ev X st x)
    | none => none
  | .field t x f => match X.tt t with
    | some i => fieldD X i f (ev X st x)
    | none => none
  | .indexAddr t x ix => match X.tt t with
    | some i => z1k X i (ev X st x) (ev X st ix)
    | none => none
  | .build t parts => match X.tt t with
    | some ⟨.struct fs, _, _, zero⟩ => if fs.all fun p => (X.tt p.2).isSome then (buildD X fs (zeroF X o fs zero) (parts.toList.map fun p => (p.1, ev X st p.2))).map .agg else none
    | some ⟨.array n e, _, _, zero⟩ => match X.tt e with
      | some ei => (buildD X (placesA n ei.size e) zero (parts.toList.map fun p => (p.1, ev X st p.2))).map .agg
      | none => none
    | _ => none
  | .extract t ix => match ev X st t with
    | .tup vs => vs[ix]?
    | _ => none
  | .lookup t x ix ok => match X.tt t with
    | some ⟨.map ke el, _, _, _⟩ => lookupD X ke el st.rows (ev X st x) (ev X st ix) ok
    | _ => none
  | .call { callee := .builtin .len, args, argTypes } => match args.toList, argTypes.toList with
    | [x], [t] => match X.tt t with
      | some ⟨.slice _, _, _, _⟩ => lenD (ev X st x)
      | some ⟨.map _ _, _, _, _⟩ => mapLenD st.rows (ev X st x)
      | _ => none
    | _, _ => none
  | .call { callee := .builtin .cap, args, argTypes } => match args.toList, argTypes.toList with
    | [x], [t] => match X.tt t with
      | some ⟨.slice _, _, _, _⟩ => capD (ev X st x)
      | _ => none
    | _, _ => none
  | _ => none
def isQuiet : Op → Bool
  | .move _ | .pick .. | .load .. | .nilCheck _ | .binOp .. | .unOp .. | .convert .. | .makeFunc .. | .slice .. | .fieldAddr .. | .field .. | .indexAddr .. | .extract .. | .build .. | .lookup .. => true
  | .call { callee := .builtin .len, .. } => true
  | _ => false
end Go.PR

end

section
namespace Go.PR
open Go
def KindOK (P : Program) (t : TypeId) : TK → Prop
  | .int k => P.underlying t = some (.int k)
  | .bool => P.underlying t = some .bool
  | .str => P.underlying t = some .string
  | .slice e => P.underlying t = some (.slice e)
  | .struct fs => ∃ fields : Array Field, P.underlying t = some (.struct fields) ∧ fields.toList.map (fun f => (f.offset, f.type)) = fs
  | .array n e => P.underlying t = some (.array n e)
  | .map k e => P.underlying t = some (.map k e)
  | .other => ∃ d, P.underlying t = some d ∧ (match d with | .struct _ | .array _ _ => true | _ => false) = false
def zeroOK : D → Value → Bool
  | .int k n, .int k' n' => k == k' && n == n'
  | .bool b, .bool b' => b == b'
  | .str s, .string s' => s.data.toList == s'.data.toList
  | .nil _, .slice none 0 0 => true
  | .any, .pointer _ => true
  | .any, .nilFunc => true
  | .any, .map _ => true
  | .any, .nilIface => true
  | _, _ => false
def zerosOK : List D → List Value → Bool
  | [], [] => true
  | d :: ds, v :: vs => zeroOK d v && zerosOK ds vs
  | _, _ => false
def zeroFit : TK → Value → Bool
  | .int k, .int k' n => k == k' && n == 0
  | .int _, _ => false
  | .bool, .bool b => !b
  | .bool, _ => false
  | _, _ => true
structure TIok (P : Program) (t : TypeId) (i : TI) : Prop where
  info : ∃ ti z, P.info? t = some ti ∧ ti.size = i.size ∧ ti.bytes = i.bytes ∧ ti.zero = some z ∧ zerosOK i.zero z.cells.toList = true ∧ z.cells.size = i.size
  kind : KindOK P t i.kind
  zfit : ∀ ti z, P.info? t = some ti → ti.zero = some z → zeroFit i.kind z = true
structure XOK (P : Program) (X : Ctx) : Prop where
  tt : ∀ t i, X.tt t = some i → TIok P t i
  ft : ∀ f fn, X.ft f = some fn → P.funcs[f]? = some fn ∧ (fn.name == "runtime.NumGoroutine") = false ∧ fn.body.isNone = false
  mixed : P.follows .mixedOrders = true
section
variable {P : Program} {X : Ctx} {F : Nat → Prop} {w0 w : World} {M0 : Entry} {M : Nat → Prop} {mu : Nat → Option Loc} {a : Act} {st : St}
theorem z6z {d : D} {v : Value} (h : zeroOK d v = true) : Rep w M mu d v := by
  unfold zeroOK at h
  split at h <;> try simp only [Rep]
  · simp_all
  · simp_all
  · rename_i s s'
    cases s; cases s'; simp_all
  · exact ⟨none, rfl, fun _ => rfl⟩
  · cases h
theorem z4u : ∀ {ds : List D} {vs : List Value}, zerosOK ds vs = true → RepL w M mu ds vs
  | [], [], _ => by simp only [RepL]
  | [], _ :: _, h => by simp [zerosOK] at h
  | _ :: _, [], h => by simp [zerosOK] at h
  | d :: ds, v :: vs, h => by
    simp only [zerosOK, Bool.and_eq_true] at h
    simp only [RepL]
    exact ⟨z6z h.1, z4u h.2⟩
theorem ze7 : ∀ {ds : List D} {vs : List Value}, zerosOK ds vs = true → ∀ u ∈ vs, u.oneCell' = true
  | [], [], _ => by simp
  | [], _ :: _, h => by simp [zerosOK] at h
  | _ :: _, [], h => by simp [zerosOK] at h
  | d :: ds, v :: vs, h => by
    simp only [zerosOK, Bool.and_eq_true] at h
    intro u hu
    rcases List.mem_cons.1 hu with rfl | hu
    · have := h.1; cases d <;> cases u <;> first | rfl | (simp [zeroOK] at this)
    · exact ze7 h.2 u hu
theorem cst_rep (v : Value) : Rep w M mu (cst v) v := by
  unfold cst
  split <;> simp only [Rep]
  exact ⟨_, rfl, fun _ => rfl⟩
theorem ev_rep (h : SR X.glob F w0 M0 w M mu a.tmps st) (x : Operand) : Rep w M mu (ev X st x) (a.eval x) := by
  cases x with
  | tmp t => exact h.get t
  | const v => exact cst_rep v
  | global g =>
    simp only [ev, Act.eval]
    cases e : X.glob g with
    | none => simp only [Option.getD, Rep]
    | some d => exact Rep.keeps (Keeps.refl _ _) (fun _ _ h => h) (fun r l e => by simp [mu0] at e) d (h.glob g d e)
  | func f => simp only [ev, Act.eval, Rep]; exact ⟨[], rfl, by simp only [RepL]⟩
theorem ev_repL (h : SR X.glob F w0 M0 w M mu a.tmps st) : ∀ (xs : List Operand), RepL w M mu (xs.map (ev X st)) (xs.map a.eval)
  | [] => by simp only [List.map, RepL]
  | x :: xs => by simp only [List.map, RepL]; exact ⟨ev_rep h x, ev_repL h xs⟩
theorem z3h (hX : XOK P X) {t : TypeId} {i : TI} (h : X.tt t = some i) (w : World) : (isAgg t).run P w = .ok i.agg w := by
  have hk := (hX.tt t i h).kind
  unfold TI.agg
  cases e : i.kind with
  | struct fs => rw [e] at hk; obtain ⟨fields, hu, _⟩ := hk; simp [isAgg, run_underlying hu]
  | other => rw [e] at hk; obtain ⟨d, hu, hd⟩ := hk; simp only [isAgg, Sem.run_bind, run_underlying hu, Result.andThen_ok]; cases d <;> simp_all
  | _ => rw [e] at hk; simp [isAgg, run_underlying hk]
theorem za (hX : XOK P X) {t : TypeId} {i : TI} (h : X.tt t = some i) (w : World) : (sizeOf t).run P w = .ok i.size w := by
  obtain ⟨ti, z, h1, h2, _⟩ := (hX.tt t i h).info
  simp [sizeOf, typeInfo, h1, h2]
theorem zax {cv : List Value} {ad : Addr} (h : Held w M (some ad) cv) {j : Nat} {u : Value} (hu : cv[j]? = some u) : w.cell? (ad.add j) = some u ∧ ¬ M ad.block := by
  rcases h with rfl | ⟨ad', e, hn, hc⟩
  · simp at hu
  · cases e
    have hj : j < cv.length := by
      rcases Nat.lt_or_ge j cv.length with h | h
      · exact h
      · rw [List.getElem?_eq_none h] at hu; cases hu
    exact ⟨(hc j hj).trans hu, hn⟩
def cellsAt (w : World) (ad : Addr) (cv : List Value) : Prop := ∀ j u, cv[j]? = some u → w.cell? (ad.add j) = some u
theorem zbu (P : Program) {ad : Addr} {cv : List Value} (h : cellsAt w ad cv) (n : Nat) (hn : n ≤ cv.length) : (loadCells ad n).run P w = .ok (cv.take n).toArray w := by
  rw [run_loadCells w ad n (fun j => cv.getD j undef) (fun j hj => h j _ (by simp [List.getD, List.getElem?_eq_getElem (Nat.lt_of_lt_of_le hj hn)]))]
  congr 1
  apply Array.ext'
  apply List.ext_getElem?
  intro k
  by_cases hk : k < n
  · have : k < cv.length := by omega
    simp [hk, List.getElem?_eq_getElem this, this]
  · simp [hk]; omega
theorem z8c (hX : XOK P X) {t : TypeId} {i : TI} (ht : X.tt t = some i) {ad : Addr} {cells : List D} {cv : List Value} {d : D} {mu' : Nat → Option Loc} (hc : cellsAt w ad cv) (hr : RepL w M mu' cells cv) (hd : loadL i cells = some d) :
    ∃ v, (loadVar t ad).run P w = .ok v w ∧ Rep w M mu' d v := by
  unfold loadL at hd
  split at hd
  · rename_i hagg
    split at hd
    · rename_i hsz
      cases hd
      refine ⟨.agg (cv.take i.size).toArray, ?_, ?_⟩
      · simp only [loadVar, Sem.run_bind, z3h hX ht, Result.andThen_ok, hagg, if_true, za hX ht]
        rw [zbu P hc _ (by rw [← hr.length]; exact hsz)]
        rfl
      · simp only [Rep]; exact ⟨_, rfl, hr.take _⟩
    · cases hd
  · rename_i hagg
    split at hd
    · obtain ⟨v, hv, hrv⟩ := hr.get 0 d hd
      refine ⟨v, ?_, hrv⟩
      have hcell := hc 0 v hv
      have h0 : ad.add 0 = ad := rfl
      rw [h0] at hcell
      simp [loadVar, z3h hX ht, hagg, hcell]
    · cases hd
theorem ContRep.of_flat {w : World} {M : Nat → Prop} {mu : Nat → Option Loc} {c : Cont} {fl : List NC} (h : c.flat = some fl) : ContRep w M mu c [] := by
  cases c with
  | nest k xss => exact (rfl : ([] : List Value) = [])
  | _ => cases h
theorem z6f (h : SR X.glob F w0 M0 w M mu a.tmps st) {r : Nat} {row : Row} (hr : st.rows r = some row) :
    ∃ l cv, mu r = some l ∧ ContRep w M mu row.c cv ∧ (∀ b base size, l = .at_ b base size → cv.length ≤ size ∧ ∀ j u, cv[j]? = some u → w.cell? ⟨b, base + j, none⟩ = some u) ∧ (l = .nowhere → cv = []) ∧
      (row.wr = false → ∀ b base size, l = .at_ b base size → ¬ M b) := by
  obtain ⟨l, e, hh⟩ := h.rows r row hr
  cases l with
  | nowhere => exact ⟨_, [], e, hh, (fun _ _ _ h => by cases h), (fun _ => rfl), (fun _ _ _ _ h => by cases h)⟩
  | at_ b base size =>
    obtain ⟨cs, T, cv, h1, h2, h3, h4, h5, h6, h7⟩ := hh
    refine ⟨_, cv, e, h3, fun b' base' size' h => ?_, (fun h => by cases h), fun hw b' base' size' h => ?_⟩
    · cases h
      refine ⟨h4, fun j u hu => ?_⟩
      have hj : j < cv.length := by
        rcases Nat.lt_or_ge j cv.length with h | h
        · exact h
        · rw [List.getElem?_eq_none h] at hu; cases hu
      simp [World.cell?, h1, h5 j hj, hu]
    · cases h; exact h7 hw
  | mapAt b =>
    obtain ⟨arr, clock, h1, h2, h3, h6, h7⟩ := hh
    exact ⟨_, [], e, h3, (fun _ _ _ h => by cases h), (fun h => by cases h), (fun _ _ _ _ h => by cases h)⟩
  | nest b base size inn =>
    obtain ⟨cs, T, cv, fl, h1, h2, hfl, _⟩ := hh
    exact ⟨_, [], e, ContRep.of_flat hfl, (fun _ _ _ h => by cases h), (fun h => by cases h), (fun _ _ _ _ h => by cases h)⟩
theorem rcdRep.cells {mu' : Nat → Option Loc} : ∀ {fs : List FK} {p : Rcd} {vs : List Value}, rcdRep w M fs p vs → RepL w M mu' (cellsOf fs p) vs ∧ vs.length = fs.length
  | [], _, [], _ => by simp [cellsOf, RepL]
  | [], _, _ :: _, h => by simp [rcdRep] at h
  | f :: _, _, [], h => by cases f <;> simp [rcdRep] at h
  | .int k :: fs, p, v :: vs, h => by
    obtain ⟨h1, h2⟩ := rcdRep.cells (mu' := mu') h.2
    exact ⟨by simp only [cellsOf, RepL, Rep]; exact ⟨h.1, h1⟩, by simp [h2]⟩
  | .bool :: fs, p, v :: vs, h => by
    obtain ⟨h1, h2⟩ := rcdRep.cells (mu' := mu') h.2
    exact ⟨by simp only [cellsOf, RepL, Rep]; exact ⟨h.1, h1⟩, by simp [h2]⟩
  | .ints k :: fs, p, v :: vs, h => by
    obtain ⟨h1, h2⟩ := rcdRep.cells (mu' := mu') h.2
    exact ⟨by simp only [cellsOf, RepL, Rep]; exact ⟨h.1, h1⟩, by simp [h2]⟩
  | .ints2 k :: fs, p, v :: vs, h => by
    obtain ⟨h1, h2⟩ := rcdRep.cells (mu' := mu') h.2
    exact ⟨by simp only [cellsOf, RepL, Rep]; exact ⟨h.1, h1⟩, by simp [h2]⟩
theorem rcdsRep.at {sh : List FK} : ∀ {ps : List Rcd} {cv : List Value}, rcdsRep w M sh ps cv → ∀ {i : Nat}, i < ps.length → ∃ vs, rcdRep w M sh (rcdAt ps i) vs ∧ ∀ q, q < vs.length → cv[i * sh.length + q]? = vs[q]?
  | [], _, _, i, hi => by simp at hi
  | p :: ps, _, ⟨v1, v2, rfl, h1, h2⟩, 0, _ => ⟨v1, h1, fun q hq => by rw [Nat.zero_mul, Nat.zero_add, List.getElem?_append_left hq]⟩
  | p :: ps, _, ⟨v1, v2, rfl, h1, h2⟩, i + 1, hi => by
    obtain ⟨vs, g1, g2⟩ := rcdsRep.at h2 (i := i) (by simpa using hi)
    have hl := (rcdRep.cells (mu' := mu0) h1).2
    refine ⟨vs, by simpa [rcdAt] using g1, fun q hq => ?_⟩
    rw [← g2 q hq, List.getElem?_append_right (by rw [hl, Nat.succ_mul]; omega)]
    congr 1
    rw [hl, Nat.succ_mul]; omega
theorem rcdsRep.len {sh : List FK} : ∀ {ps : List Rcd} {cv : List Value}, rcdsRep w M sh ps cv → cv.length = ps.length * sh.length
  | [], _, h => by simp only [rcdsRep] at h; subst h; simp
  | p :: ps, _, ⟨v1, v2, rfl, h1, h2⟩ => by
    rw [List.length_append, (rcdRep.cells (mu' := mu0) h1).2, rcdsRep.len h2, List.length_cons, Nat.succ_mul]; omega
theorem ContRep.len {c : Cont} {cv : List Value} (h : ContRep w M mu c cv) : cv.length = c.len := by
  cases c with
  | mp kk vk es => simp only [ContRep] at h; subst h; simp [Cont.len]
  | nest k xss => simp only [ContRep] at h; subst h; simp [Cont.len]
  | recs sh ps => exact rcdsRep.len h
  | ints k xs => simp only [ContRep] at h; subst h; simp [Cont.len, intsV]
  | bools xs => simp only [ContRep] at h; subst h; simp [Cont.len, boolsV]
  | ints2 k xss => simp only [ContRep] at h; simp [Cont.len, All2.length h]
  | gen els => simp [Cont.len, RepL.length h.1]
  | var cells => simp [Cont.len, RepL.length h.1]
theorem All2.get {α β : Type} {R : α → β → Prop} : ∀ {as : List α} {bs : List β}, All2 R as bs → ∀ (i : Nat) (x : α), as[i]? = some x → ∃ y, bs[i]? = some y ∧ R x y
  | [], [], _, i, x, e => by simp at e
  | x' :: as, y :: bs, h, 0, x, e => by simp at e; subst e; exact ⟨y, by simp, h.1⟩
  | x' :: as, y :: bs, h, i + 1, x, e => by simpa using All2.get h.2 i x (by simpa using e)
theorem ContRep.get {c : Cont} {cv : List Value} (h : ContRep w M mu c cv) {i : Nat} {d : D} (hd : c.get i = some d) : ∃ v, cv[i]? = some v ∧ Rep w M mu d v ∧ (c.isVar = false → Rep w M mu0 d v) := by
  cases c with
  | mp kk vk es => simp [Cont.get] at hd
  | nest k xss => simp [Cont.get] at hd
  | recs sh ps => simp [Cont.get] at hd
  | ints k xs =>
    simp only [ContRep] at h; subst h
    simp only [Cont.get] at hd
    split at hd
    · rename_i hi; cases hd
      refine ⟨.int k (xs.getD i 0), ?_, by simp only [Rep], fun _ => by simp only [Rep]⟩
      simp [intsV, List.getElem?_eq_getElem hi, List.getD]
    · cases hd
  | bools xs =>
    simp only [ContRep] at h; subst h
    simp only [Cont.get] at hd
    split at hd
    · rename_i hi; cases hd
      refine ⟨.bool (xs.getD i false), ?_, by simp only [Rep], fun _ => by simp only [Rep]⟩
      simp [boolsV, List.getElem?_eq_getElem hi, List.getD]
    · cases hd
  | ints2 k xss =>
    simp only [ContRep] at h
    simp only [Cont.get] at hd
    split at hd
    · rename_i hi; cases hd
      obtain ⟨v, hv, hs⟩ := h.get i xss[i] (List.getElem?_eq_getElem hi)
      refine ⟨v, hv, ?_, fun _ => ?_⟩ <;> (simp only [Rep, List.getD, List.getElem?_eq_getElem hi, Option.getD]; exact hs)
    · cases hd
  | gen els =>
    obtain ⟨v, hv, hr⟩ := h.1.get i d hd
    exact ⟨v, hv, Rep.keeps (Keeps.refl _ _) (fun _ _ h => h) (fun r l e => by simp [mu0] at e) d hr, fun _ => hr⟩
  | var cells =>
    obtain ⟨v, hv, hr⟩ := h.1.get i d hd
    exact ⟨v, hv, hr, fun h => by cases h⟩
theorem zb (b o j : Nat) : (⟨b, o, none⟩ : Addr).add j = ⟨b, o + j, none⟩ := by
  unfold Addr.add; split <;> simp_all
theorem zbv (hX : XOK P X) (h : SR X.glob F w0 M0 w M mu a.tmps st) {t : TypeId} {i : TI} (ht : X.tt t = some i) {x d : D} {v : Value} (hx : Rep w M mu x v) (hd : loadD i st.rows x = some d) :
    ∃ u, (Instr.loadAt t v).run P w = .ok u w ∧ Rep w M mu d u := by
  cases x with
  | pim cells =>
    simp only [Rep] at hx
    obtain ⟨ad, cv, rfl, hr, hh⟩ := hx
    simp only [loadD] at hd
    have hc : cellsAt w ad cv := fun j u hu => (zax hh hu).1
    obtain ⟨u, h1, h2⟩ := z8c hX ht hc hr hd
    refine ⟨u, ?_, Rep.keeps (Keeps.refl _ _) (fun _ _ h => h) (fun r l e => by simp [mu0] at e) d h2⟩
    simp [Instr.loadAt, Instr.sureAddr, h1]
  | ptr r off =>
    simp only [Rep] at hx
    obtain ⟨l, hl, hv⟩ := hx
    simp only [loadD] at hd
    split at hd
    · rename_i wr cells hrow
      obtain ⟨l', cv, e', hc, hat, hno, _⟩ := z6f h hrow
      rw [hl] at e'
      cases e'
      cases l with
      | nowhere => simp [Loc.cell] at hv
      | mapAt b => simp [Loc.cell] at hv
      | nest => simp [Loc.cell] at hv
      | at_ b base size =>
        simp only [Loc.cell] at hv
        subst hv
        obtain ⟨hle, hcell⟩ := hat b base size rfl
        have hcells : cellsAt w ⟨b, base + off, none⟩ (cv.drop off) := fun j u hu => by
          rw [zb, Nat.add_assoc]
          exact hcell _ u (by simpa [List.getElem?_drop] using hu)
        obtain ⟨u, h1, h2⟩ := z8c hX ht hcells (hc.1.drop off) hd
        exact ⟨u, by simp [Instr.loadAt, Instr.sureAddr, h1], h2⟩
    · cases hd
  | pel r j =>
    simp only [Rep] at hx
    obtain ⟨l, hl, hv⟩ := hx
    simp only [loadD] at hd
    split at hd
    · rename_i row hrow
      split at hd
      · cases hd
      · rename_i hna
        split at hd
        · rename_i hsz
          obtain ⟨l', cv, e', hc, hat, hno, _⟩ := z6f h hrow
          rw [hl] at e'
          cases e'
          cases l with
          | nowhere => simp [Loc.cell] at hv
          | mapAt b => simp [Loc.cell] at hv
          | nest => simp [Loc.cell] at hv
          | at_ b base size =>
            simp only [Loc.cell] at hv
            subst hv
            obtain ⟨hle, hcell⟩ := hat b base size rfl
            obtain ⟨u, hu, hr, _⟩ := hc.get hd
            have hagg : i.agg = false := by cases e : i.agg <;> simp_all
            refine ⟨u, ?_, hr⟩
            have := hcell j u hu
            simp [Instr.loadAt, Instr.sureAddr, loadVar, z3h hX ht, hagg, this]
        · cases hd
    · cases hd
  | npe r j =>
    simp only [Rep] at hx
    obtain ⟨l, hl, hv⟩ := hx
    simp only [loadD] at hd
    split at hd
    case h_2 => cases hd
    rename_i wr k xss hrow
    split at hd
    case isFalse => cases hd
    rename_i hcond
    obtain ⟨hagg, hsz, hj⟩ := hcond
    cases hd
    obtain ⟨l', e, hh⟩ := h.rows r _ hrow
    rw [hl] at e
    obtain rfl := Option.some.inj e
    cases l with
    | nest b base size inn =>
      obtain ⟨cs, T, cv, fl, h1, h2, hfl, h3, h4, h5, h8, h6, h7⟩ := hh
      cases hfl
      have hv : v = .pointer (some ⟨b, base + j, none⟩) := hv
      subst hv
      have hx : xss[j]? = some (xss.getD j []) := by rw [List.getD_eq_getElem?_getD, List.getElem?_eq_getElem hj]; rfl
      obtain ⟨i0, u, hi, hu, hc⟩ := h3.at j (.row k (xss.getD j [])) (by simp only [List.getElem?_map, hx, Option.map_some])
      have hjl : j < cv.length := (List.getElem?_eq_some_iff.1 hu).1
      have hcell : w.cell? ⟨b, base + j, none⟩ = some u := by simp [World.cell?, h1, h5 j hjl, hu]
      refine ⟨u, by simp [Instr.loadAt, Instr.sureAddr, loadVar, z3h hX ht, hagg, hcell], ?_⟩
      simp only [Rep]
      refine ⟨_, hl, ?_⟩
      simp only [Loc.inner, hi]
      cases i0 with
      | none => obtain ⟨q1, q2⟩ := hc; rw [q1]; exact ⟨rfl, q2⟩
      | some p =>
        obtain ⟨b', base', size'⟩ := p
        obtain ⟨cs', T', g1, g2, g3, g4, g5⟩ := hc
        exact ⟨g4, g3⟩
    | _ => exact absurd hv id
  | nep r j q =>
    simp only [Rep] at hx
    obtain ⟨l, hl, hv⟩ := hx
    simp only [loadD] at hd
    split at hd
    case h_2 => cases hd
    rename_i wr k xss hrow
    split at hd
    case isFalse => cases hd
    rename_i hcond
    obtain ⟨hagg, hsz, hj, hq⟩ := hcond
    cases hd
    obtain ⟨l', e, hh⟩ := h.rows r _ hrow
    rw [hl] at e
    obtain rfl := Option.some.inj e
    cases l with
    | nest b base size inn =>
      obtain ⟨cs, T, cv, fl, h1, h2, hfl, h3, h4, h5, h8, h6, h7⟩ := hh
      cases hfl
      have hx : xss[j]? = some (xss.getD j []) := by rw [List.getD_eq_getElem?_getD, List.getElem?_eq_getElem hj]; rfl
      obtain ⟨i0, u, hi, hu, hc⟩ := h3.at j (.row k (xss.getD j [])) (by simp only [List.getElem?_map, hx, Option.map_some])
      simp only [Loc.icell, hi] at hv
      cases i0 with
      | none => exact absurd hv id
      | some p =>
        obtain ⟨b', base', size'⟩ := p
        have hv : v = .pointer (some ⟨b', base' + q, none⟩) := hv
        subst hv
        obtain ⟨cs', T', g1, g2, g3, g4, g5⟩ := hc
        generalize xss.getD j [] = xs at *
        have hcell : w.cell? ⟨b', base' + q, none⟩ = some (.int k (xs.getD q 0)) := by
          simp only [World.cell?, g1]
          simp [g5 q hq, intsV, List.getElem?_eq_getElem hq, List.getD_eq_getElem?_getD]
        exact ⟨.int k (xs.getD q 0), by simp [Instr.loadAt, Instr.sureAddr, loadVar, z3h hX ht, hagg, hcell], by simp only [Rep]⟩
    | _ => exact absurd hv id
  | rpe r sz j f =>
    simp only [Rep] at hx
    obtain ⟨l, hl, hv⟩ := hx
    simp only [loadD] at hd
    split at hd
    case h_2 => cases hd
    rename_i wr sh ps hrow
    split at hd
    case isFalse => cases hd
    rename_i hcond
    obtain ⟨rfl, hj⟩ := hcond
    obtain ⟨l', cv, e', hc, hat, hno, _⟩ := z6f h hrow
    rw [hl] at e'
    cases e'
    cases l with
    | at_ b base size =>
      simp only [Loc.cell] at hv
      subst hv
      obtain ⟨hle, hcell⟩ := hat b base size rfl
      have hc : rcdsRep w M sh ps cv := hc
      obtain ⟨vs, g1, g2⟩ := hc.at hj
      obtain ⟨k1, k2⟩ := rcdRep.cells (mu' := mu0) g1
      have hcells : cellsAt w ⟨b, base + (j * sh.length + f), none⟩ (vs.drop f) := fun q u hu => by
        rw [List.getElem?_drop] at hu
        have hq : f + q < vs.length := (List.getElem?_eq_some_iff.1 hu).1
        rw [zb, show base + (j * sh.length + f) + q = base + (j * sh.length + (f + q)) by omega]
        exact hcell _ u ((g2 _ hq).trans hu)
      obtain ⟨u, h1, h2⟩ := z8c hX ht hcells (k1.drop f) hd
      refine ⟨u, by simp [Instr.loadAt, Instr.sureAddr, h1], Rep.keeps (Keeps.refl _ _) (fun _ _ h => h) (fun r l e => by simp [mu0] at e) d h2⟩
    | _ => exact absurd hv id
  | _ => simp [loadD] at hd
end
end Go.PR

end

section
namespace Go.PR
open Go
section
variable {P : Program} {X : Ctx} {F : Nat → Prop} {w0 w : World} {M0 : Entry} {M : Nat → Prop} {mu : Nat → Option Loc} {a : Act} {st : St}
def D.toV : D → Value
  | .int k n => .int k n
  | .bool b => .bool b
  | _ => undef
theorem zeo {op : BinOp} {k : IntKind} {x y : Int} {d : D} (h : binI op k x y = some d) (t : TypeId) (h1 : op ≠ .shl) (h2 : op ≠ .shr) : (binOp op t (.int k x) (.int k y)).run P w = .ok d.toV w ∧ Rep w M mu d d.toV := by
  cases op <;> simp only [binI] at h <;> first
    | contradiction
    | (cases h
       exact ⟨by simp [D.toV, binOp, Op.intArith, Op.intBits, Op.intCmp], by simp only [Rep, D.toV]⟩)
    | (split at h
       · cases h
       · rename_i hy
         cases h
         exact ⟨by simp [D.toV, binOp, Op.intDiv, hy], by simp only [Rep, D.toV]⟩)
theorem zd5 {op : BinOp} {k yk : IntKind} {x y : Int} {d : D} (h : shiftI op k x y = some d) (t : TypeId) (h1 : op = .shl ∨ op = .shr) : (binOp op t (.int k x) (.int yk y)).run P w = .ok d.toV w ∧ Rep w M mu d d.toV := by
  unfold shiftI at h
  split at h
  · cases h
  · rename_i hy
    rcases h1 with rfl | rfl <;> (simp only [] at h; cases h; exact ⟨by simp [D.toV, binOp, Op.shift, hy], by simp only [Rep, D.toV]⟩)
theorem zel (hX : XOK P X) {op : BinOp} {t : TypeId} {x y d : D} {u v : Value} (hx : Rep w M mu x u) (hy : Rep w M mu y v) (h : binD op (X.tt t) x y = some d) :
    ∃ r, (binOp op t u v).run P w = .ok r w ∧ Rep w M mu d r := by
  unfold binD at h
  split at h
  · rename_i k a k' b
    simp only [Rep] at hx hy
    subst hx hy
    split at h
    · exact ⟨_, zd5 h t (.inl rfl)⟩
    · exact ⟨_, zd5 h t (.inr rfl)⟩
    · rename_i h1 h2
      split at h
      · rename_i hk
        subst hk
        exact ⟨_, zeo h t (fun e => h1 e) (fun e => h2 e)⟩
      · cases h
  · rename_i a b
    simp only [Rep] at hx hy
    subst hx hy
    split at h
    · rename_i e
      have hk := (hX.tt t _ e).kind
      cases h
      exact ⟨.bool (a == b), run_eql_bool w t a b hk, by simp only [Rep]⟩
    · rename_i e
      have hk := (hX.tt t _ e).kind
      cases h
      exact ⟨.bool (!(a == b)), run_neq_bool w t a b hk, by simp only [Rep]⟩
    · cases h
  · cases h
theorem zfs {op : BinOp} {t : TypeId} {x y : Operand} {u v : Value} (hu : (match u with | .int _ _ | .bool _ => true | _ => false) = true) : (eqGuard op t x y u v).run P w = .ok () w := by
  unfold eqGuard
  cases u <;> simp at hu <;> (split <;> simp)
theorem unD_run {op : UnOp} {x d : D} {u : Value} (hx : Rep w M mu x u) (h : unD op x = some d) : ∃ r, (Op.unary op u).run P w = .ok r w ∧ Rep w M mu d r := by
  refine ⟨d.toV, ?_⟩
  unfold unD at h
  split at h
  · simp only [Rep] at hx
    subst hx
    split at h <;> cases h
    exact ⟨by simp [D.toV, Op.unary], by simp only [Rep, D.toV]⟩
  · simp only [Rep] at hx
    subst hx
    split at h <;> cases h
    · exact ⟨by simp [D.toV, Op.unary, Op.intArith], by simp only [Rep, D.toV]⟩
    · exact ⟨by simp [D.toV, Op.unary, Op.intBits], by simp only [Rep, D.toV]⟩
  · cases h
theorem zfx (hX : XOK P X) {t : TypeId} {i : TI} (ht : X.tt t = some i) {f : Nat} {x d : D} {u : Value} (hx : Rep w M mu x u) (h : z5j X i f x = some d) : ∃ r, (Instr.fieldAt t u f).run P w = .ok r w ∧ Rep w M mu d r := by
  have hk := (hX.tt t i ht).kind
  unfold z5j at h
  split at h
  · rename_i fs hfs
    rw [hfs] at hk
    obtain ⟨fields, hu, hf⟩ := hk
    split at h
    · rename_i off ft hft
      split at h
      · rename_i fi hfi
        split at h
        · cases h
        · rename_i hsz
          rw [← hf] at hft
          rw [List.getElem?_map] at hft
          obtain ⟨fld, hfld, hpair⟩ := Option.map_eq_some_iff.1 hft
          cases hpair
          rw [Array.getElem?_toList] at hfld
          split at h
          · rename_i r o
            cases h
            simp only [Rep] at hx ⊢
            obtain ⟨l, hl, hv⟩ := hx
            cases l with
            | nowhere => simp [Loc.cell] at hv
            | mapAt b => simp [Loc.cell] at hv
            | nest => simp [Loc.cell] at hv
            | at_ b base size =>
              simp only [Loc.cell] at hv
              subst hv
              refine ⟨_, ?_, _, hl, rfl⟩
              simp [Instr.fieldAt, run_underlying hu, hfld, Instr.sureAddr, fieldPlace, za hX hfi, hsz, zb, Nat.add_assoc]
          · rename_i cells
            cases h
            simp only [Rep] at hx ⊢
            obtain ⟨ad, cv, rfl, hr, hh⟩ := hx
            refine ⟨.pointer (some (ad.add fld.offset)), ?_, _, cv.drop fld.offset, rfl, hr.drop _, ?_⟩
            · simp [Instr.fieldAt, run_underlying hu, hfld, Instr.sureAddr, fieldPlace, za hX hfi, hsz]
            · rcases hh with rfl | ⟨ad', e, hn, hc⟩
              · exact .inl (by simp)
              · cases e
                refine .inr ⟨_, rfl, by rwa [z3b], fun j hj => ?_⟩
                have h1 := hc (fld.offset + j) (by simp at hj; omega)
                rw [List.getElem?_drop, ← h1]
                congr 1
                simp only [Addr.add]
                split <;> split <;> simp_all <;> try omega
          · rename_i r sz j o
            cases h
            simp only [Rep] at hx ⊢
            obtain ⟨l, hl, hv⟩ := hx
            cases l with
            | at_ b base size =>
              simp only [Loc.cell] at hv
              subst hv
              refine ⟨_, ?_, _, hl, rfl⟩
              simp [Instr.fieldAt, run_underlying hu, hfld, Instr.sureAddr, fieldPlace, za hX hfi, hsz, zb, Nat.add_assoc]
            | _ => exact absurd hv id
          · cases h
      · cases h
    · cases h
  · cases h
theorem zkq (hX : XOK P X) {t : TypeId} {i : TI} (ht : X.tt t = some i) {cells : List D} {cv : List Value} {off : Nat} {d : D} {mu' : Nat → Option Loc} (hr : RepL w M mu' cells cv)
    (h : (if i.agg then (if off + i.size ≤ cells.length then some (D.agg ((cells.drop off).take i.size)) else none) else cells[off]?) = some d) : ∃ r, (part t cv.toArray off).run P w = .ok r w ∧ Rep w M mu' d r := by
  split at h
  · rename_i hagg
    split at h
    · cases h
      refine ⟨.agg ((cv.drop off).take i.size).toArray, ?_, ?_⟩
      · simp only [part, Sem.run_bind, z3h hX ht, Result.andThen_ok, hagg, if_true, za hX ht, Sem.run_pure]
        congr 2
        apply Array.ext'
        simp [List.extract_eq_take_drop]
      · simp only [Rep]; exact ⟨_, rfl, (hr.drop off).take _⟩
    · cases h
  · rename_i hagg
    obtain ⟨v, hv, hrv⟩ := hr.get off d h
    exact ⟨v, by simp [part, z3h hX ht, hagg, hv], hrv⟩
theorem zfy (hX : XOK P X) {t : TypeId} {i : TI} (ht : X.tt t = some i) {f : Nat} {x d : D} {u : Value} (hx : Rep w M mu x u) (h : fieldD X i f x = some d) : ∃ r, (Instr.field t u f).run P w = .ok r w ∧ Rep w M mu d r := by
  have hk := (hX.tt t i ht).kind
  unfold fieldD at h
  split at h
  · rename_i fs cells hfs
    rw [hfs] at hk
    obtain ⟨fields, hu, hf⟩ := hk
    simp only [Rep] at hx
    obtain ⟨cv, rfl, hr⟩ := hx
    split at h
    · rename_i off ft hft
      split at h
      · rename_i fi hfi
        rw [← hf] at hft
        rw [List.getElem?_map] at hft
        obtain ⟨fld, hfld, hpair⟩ := Option.map_eq_some_iff.1 hft
        cases hpair
        rw [Array.getElem?_toList] at hfld
        obtain ⟨r, h1, h2⟩ := zkq hX hfi hr h
        exact ⟨r, by simp [Instr.field, run_underlying hu, hfld, asAgg, h1], h2⟩
      · cases h
    · cases h
  · cases h
theorem SlV.cont (hX : XOK P X) {x : D} {c : Cont} {v : Value} (hx : Rep w M mu x v) (hc : x.cont = some c) : ∃ cv, ContRep w M mu0 c cv ∧ SlV w M cv v ∧ c.isVar = false := by
  cases x with
  | immI k xs => simp only [D.cont] at hc; cases hc; simp only [Rep] at hx; exact ⟨_, rfl, hx, rfl⟩
  | immB xs => simp only [D.cont] at hc; cases hc; simp only [Rep] at hx; exact ⟨_, rfl, hx, rfl⟩
  | imm2 k xss => simp only [D.cont] at hc; cases hc; simp only [Rep] at hx; obtain ⟨cv, h1, h2⟩ := hx; exact ⟨cv, h1, h2, rfl⟩
  | immG els => simp only [D.cont] at hc; cases hc; simp only [Rep] at hx; obtain ⟨cv, h1, h2, h3⟩ := hx; exact ⟨cv, ⟨h1, h2⟩, h3, rfl⟩
  | _ => simp [D.cont] at hc
theorem Loc.slice_cell {l : Loc} {off n : Nat} {v : Value} (h : l.slice off n v) {j : Nat} (hj : j < n) : ∃ b base size c, l = .at_ b base size ∧ v = .slice (some ⟨b, base + off, none⟩) n c ∧ n ≤ c ∧ off + c = size := by
  cases l with
  | nowhere => simp only [Loc.slice] at h; omega
  | mapAt b => simp [Loc.slice] at h
  | nest => simp [Loc.slice] at h
  | at_ b base size =>
    simp only [Loc.slice] at h
    rcases h with ⟨h0, _⟩ | ⟨c, e, h1, h2⟩
    · omega
    · exact ⟨b, base, size, c, rfl, e, h1, h2⟩
theorem zeb (ad : Addr) (m q : Nat) : (ad.add m).add q = ad.add (m + q) := by
  simp only [Addr.add]
  split <;> split <;> simp_all <;> try omega
theorem zhz (hX : XOK P X) {t : TypeId} {i : TI} (ht : X.tt t = some i) {x ix d : D} {u v : Value} (hx : Rep w M mu x u) (hix : Rep w M mu ix v) (h : z1k X i x ix = some d) :
    ∃ r, (Instr.indexAt t u v).run P w = .ok r w ∧ Rep w M mu d r := by
  have hk := (hX.tt t i ht).kind
  unfold z1k at h
  split at h
  case h_2 => cases h
  rename_i kk j
  simp only [Rep] at hix
  subst hix
  split at h
  · rename_i e r off n hkind
    rw [hkind] at hk
    split at h
    · rename_i ei hei
      split at h
      · rename_i hb
        cases h
        simp only [Rep] at hx ⊢
        obtain ⟨l, hl, hs⟩ := hx
        obtain ⟨b, base, size, c, rfl, rfl, hn, hsz⟩ := Loc.slice_cell hs (j := j.toNat) (by omega)
        refine ⟨_, ?_, _, hl, rfl⟩
        simp [Instr.indexAt, asIntOf, run_underlying hk, za hX hei, hb.1, hb.2.1, hb.2.2, zb, Nat.add_assoc]
      · cases h
    · cases h
  · rename_i e sh ps hkind
    rw [hkind] at hk
    split at h
    · rename_i ei hei
      split at h
      · rename_i hb
        cases h
        simp only [Rep] at hx ⊢
        obtain ⟨A, c, cv, rfl, hle, hr, hh⟩ := hx
        have hj : j.toNat < ps.length := by omega
        obtain ⟨vs, g1, g2⟩ := hr.at hj
        obtain ⟨k1, k2⟩ := rcdRep.cells (mu' := mu0) g1
        have hvl : 0 < vs.length := by omega
        have hcv : ∀ q, q < vs.length → j.toNat * sh.length + q < cv.length := fun q hq => by
          have := g2 q hq
          rw [List.getElem?_eq_getElem hq] at this
          exact (List.getElem?_eq_some_iff.1 this).1
        rcases hh with rfl | ⟨ad, rfl, hn, hcell⟩
        · have := hcv 0 hvl; simp at this
        · refine ⟨.pointer (some (ad.add (j.toNat * ei.size))), ?_, _, vs, rfl, k1, .inr ⟨_, rfl, by rwa [z3b], fun q hq => ?_⟩⟩
          · simp [Instr.indexAt, asIntOf, run_underlying hk, za hX hei, hb.2.2.1, hb.2.2.2]
          · rw [zeb, hb.1, hcell _ (hcv q hq), g2 q hq]
      · cases h
    · cases h
  · rename_i e r sz n hkind
    rw [hkind] at hk
    split at h
    · rename_i ei hei
      split at h
      · rename_i hb
        cases h
        simp only [Rep] at hx ⊢
        obtain ⟨l, hl, hs⟩ := hx
        cases l with
        | nowhere => have := hs.1; omega
        | at_ b base size =>
          obtain ⟨c, rfl, hle, hsz⟩ := hs
          refine ⟨_, ?_, _, hl, rfl⟩
          simp [Instr.indexAt, asIntOf, run_underlying hk, za hX hei, hb.1, hb.2.1, hb.2.2.1, hb.2.2.2, zb]
        | _ => exact absurd hs id
      · cases h
    · cases h
  · rename_i e r n hkind
    rw [hkind] at hk
    split at h
    · rename_i ei hei
      split at h
      · rename_i hb
        cases h
        simp only [Rep] at hx ⊢
        obtain ⟨l, hl, hs⟩ := hx
        cases l with
        | nowhere => have := hs.1; omega
        | nest b base size inn =>
          obtain ⟨rfl, hle⟩ := hs
          refine ⟨_, ?_, _, hl, rfl⟩
          simp [Instr.indexAt, asIntOf, run_underlying hk, za hX hei, hb.1, hb.2.1, hb.2.2, zb]
        | _ => exact absurd hs id
      · cases h
    · cases h
  · rename_i e r q n hkind
    rw [hkind] at hk
    split at h
    · rename_i ei hei
      split at h
      · rename_i hb
        cases h
        simp only [Rep] at hx ⊢
        obtain ⟨l, hl, hs⟩ := hx
        cases l with
        | nest b base size inn =>
          simp only [Loc.inner] at hs
          split at hs
          · have := hs.1; omega
          · rename_i b' base' size' hi
            obtain ⟨rfl, hle⟩ := hs
            refine ⟨.pointer (some ⟨b', base' + j.toNat, none⟩), ?_, _, hl, by simp only [Loc.icell, hi]⟩
            simp [Instr.indexAt, asIntOf, run_underlying hk, za hX hei, hb.1, hb.2.1, hb.2.2, zb]
          · exact hs.elim
        | _ => exact absurd hs id
      · cases h
    · cases h
  · rename_i e hkind hno hno2 hno3 hno4 hno5
    rw [hkind] at hk
    split at h
    · rename_i ei c hei hc
      split at h
      · rename_i hb
        obtain ⟨d0, hd0, rfl⟩ := Option.map_eq_some_iff.1 h
        obtain ⟨cv, hcr, ⟨A, cap, rfl, hle, hh⟩, hv⟩ := SlV.cont hX hx hc
        obtain ⟨el, hel, _, hel0⟩ := hcr.get hd0
        have hlen := hcr.len
        rcases hh with rfl | ⟨ad, rfl, hn, hcell⟩
        · simp at hlen; omega
        · have hjl : (j : Int) < (cv.length : Int) := by rw [hlen]; exact hb.2.2
          refine ⟨.pointer (some (ad.add j.toNat)), ?_, ?_⟩
          · simp [Instr.indexAt, asIntOf, run_underlying hk, za hX hei, hb.1, hb.2.1, hjl]
          · simp only [Rep, RepL]
            refine ⟨_, [el], rfl, ⟨?_, trivial⟩, .inr ⟨_, rfl, by rwa [z3b], fun k hk => ?_⟩⟩
            · exact Rep.keeps (Keeps.refl _ _) (fun _ _ h => h) (fun r l e => by simp [mu0] at e) d0 (hel0 hv)
            · simp at hk
              subst hk
              have h1 := hcell j.toNat (by omega)
              simpa [Addr.add, hel] using h1.trans hel
      · cases h
    · cases h
  · rename_i n e cells hkind
    rw [hkind] at hk
    split at h
    · rename_i ei hei
      split at h
      · rename_i hb
        cases h
        simp only [Rep] at hx ⊢
        obtain ⟨ad, cv, rfl, hr, hh⟩ := hx
        refine ⟨.pointer (some (ad.add (j.toNat * ei.size))), ?_, _, cv.drop (j.toNat * ei.size), rfl, hr.drop _, ?_⟩
        · simp [Instr.indexAt, asIntOf, run_underlying hk, za hX hei, hb.1, hb.2, Instr.sureAddr]
        · rcases hh with rfl | ⟨ad', e', hn, hc⟩
          · exact .inl (by simp)
          · cases e'
            refine .inr ⟨_, rfl, by rwa [z3b], fun q hq => ?_⟩
            have h1 := hc (j.toNat * ei.size + q) (by simp at hq; omega)
            rw [List.getElem?_drop, ← h1]
            congr 1
            generalize j.toNat * ei.size = m
            simp only [Addr.add]
            split <;> split <;> simp_all <;> try omega
      · cases h
    · cases h
  · rename_i n e r off hkind
    rw [hkind] at hk
    split at h
    · rename_i ei hei
      split at h
      · rename_i hb
        cases h
        simp only [Rep] at hx ⊢
        obtain ⟨l, hl, hv⟩ := hx
        cases l with
        | nowhere => simp [Loc.cell] at hv
        | mapAt b => simp [Loc.cell] at hv
        | nest => simp [Loc.cell] at hv
        | at_ b base size =>
          simp only [Loc.cell] at hv
          subst hv
          refine ⟨_, ?_, _, hl, rfl⟩
          simp [Instr.indexAt, asIntOf, run_underlying hk, za hX hei, hb.1, hb.2, Instr.sureAddr, zb, Nat.add_assoc]
      · cases h
    · cases h
  · cases h
end
end Go.PR

end

section
namespace Go.PR
open Go
section
variable {P : Program} {X : Ctx} {F : Nat → Prop} {w0 w : World} {M0 : Entry} {M : Nat → Prop} {mu : Nat → Option Loc} {a : Act} {st : St}
theorem bnd_run {lo : Option Operand} (h : SR X.glob F w0 M0 w M mu a.tmps st) {dflt n : Nat} (hb : bnd (lo.map (ev X st)) dflt = some n) :
    (lo = none ∧ n = dflt) ∨ ∃ k, lo.map a.eval = some (.int k n) := by
  cases lo with
  | none => simp [bnd] at hb; exact .inl ⟨rfl, hb.symm⟩
  | some x =>
    have hr := ev_rep h x
    simp only [Option.map_some] at hb ⊢
    generalize ev X st x = d at *
    cases d <;> simp [bnd] at hb
    rename_i k j
    obtain ⟨h0, rfl⟩ := hb
    simp only [Rep] at hr
    exact .inr ⟨k, by rw [hr]; congr; omega⟩
theorem z59 {lo hi : Option Operand} (h : SR X.glob F w0 M0 w M mu a.tmps st) {n c l hh : Nat} (h1 : bnd (lo.map (ev X st)) 0 = some l) (h2 : bnd (hi.map (ev X st)) n = some hh) (hl : l ≤ hh) (hc : hh ≤ c) :
    (Instr.sliceBounds true n c (lo.map a.eval) (hi.map a.eval) none).run P w = .ok (l, hh, c) w := by
  have e1 : ∀ k, (Instr.sliceBound (.int k (hh : Int)) c .sliceAcap).run P w = .ok hh w := fun k => by
    have : (0 : Int) ≤ hh ∧ (hh : Int) ≤ c := by omega
    simp [Instr.sliceBound, asIntOf]; omega
  have e2 : ∀ k, (Instr.sliceBound (.int k (l : Int)) hh .sliceB).run P w = .ok l w := fun k => by
    simp [Instr.sliceBound, asIntOf]; omega
  rcases bnd_run h h1 with ⟨rfl, rfl⟩ | ⟨k1, g1⟩ <;> rcases bnd_run h h2 with ⟨rfl, rfl⟩ | ⟨k2, g2⟩
  · simp [Instr.sliceBounds]
  · simp [Instr.sliceBounds, g2, e1]
  · simp [Instr.sliceBounds, g1, e2]
  · simp [Instr.sliceBounds, g1, g2, e1, e2]
theorem subL_eq {α : Type} (xs : List α) (off n : Nat) (h : off + n ≤ xs.length) : subL xs off n = (xs.drop off).take n := by
  unfold subL
  split
  · rename_i hh
    obtain ⟨rfl, rfl⟩ := hh
    simp
  · rfl
theorem SlV.sub {cv : List Value} {A : Option Addr} {n c : Nat} (hn : n = cv.length) (hle : cv.length ≤ c) (hh : Held w M A cv) {l h : Nat} (hl : l ≤ h) (hhn : h ≤ n) :
    SlV w M ((cv.drop l).take (h - l)) (.slice (if c = l then A else A.map (·.add l)) (h - l) (c - l)) := by
  have hlen : ((cv.drop l).take (h - l)).length = h - l := by simp; omega
  refine ⟨_, _, by rw [hlen], by omega, ?_⟩
  by_cases h0 : h - l = 0
  · exact .inl (by rw [h0]; simp)
  · rcases hh with rfl | ⟨ad, rfl, hn', hc⟩
    · exact .inl (by simp)
    · have hcl : c ≠ l := by omega
      rw [if_neg hcl]
      refine .inr ⟨ad.add l, rfl, by rwa [z3b], fun j hj => ?_⟩
      rw [hlen] at hj
      have h1 := hc (l + j) (by omega)
      rw [List.getElem?_take, if_pos hj, List.getElem?_drop, ← h1]
      congr 1
      simp only [Addr.add]
      split <;> split <;> simp_all <;> try omega
theorem zbe (k : IntKind) (xs : List Int) (l n : Nat) : intsV k ((xs.drop l).take n) = ((intsV k xs).drop l).take n := by simp [intsV, List.map_take, List.map_drop]
theorem z9z (xs : List Bool) (l n : Nat) : boolsV ((xs.drop l).take n) = ((boolsV xs).drop l).take n := by simp [boolsV, List.map_take, List.map_drop]
theorem All2.take {α β : Type} {R : α → β → Prop} : ∀ (n : Nat) {as : List α} {bs : List β}, All2 R as bs → All2 R (as.take n) (bs.take n)
  | 0, _, _, _ => by simp [All2]
  | n + 1, [], [], _ => by simp [All2]
  | n + 1, _ :: _, _ :: _, h => ⟨h.1, All2.take n h.2⟩
theorem All2.drop {α β : Type} {R : α → β → Prop} : ∀ (n : Nat) {as : List α} {bs : List β}, All2 R as bs → All2 R (as.drop n) (bs.drop n)
  | 0, _, _, h => by simpa using h
  | n + 1, [], [], _ => by simp [All2]
  | n + 1, _ :: _, _ :: _, h => All2.drop n h.2
theorem Cont.imm_rep {c : Cont} {cv : List Value} (hc : ContRep w M mu0 c cv) {l n : Nat} {d : D} (hle : l + n ≤ c.len) (hd : c.imm l n = some d) {v : Value} (hs : SlV w M ((cv.drop l).take n) v) : Rep w M mu d v := by
  cases c with
  | mp kk vk es => simp [Cont.imm] at hd
  | nest k xss => simp [Cont.imm] at hd
  | recs sh ps => simp [Cont.imm] at hd
  | ints k xs =>
    simp only [Cont.imm] at hd; cases hd
    simp only [ContRep] at hc; subst hc
    simp only [Rep, subL_eq _ _ _ hle, zbe]; exact hs
  | bools xs =>
    simp only [Cont.imm] at hd; cases hd
    simp only [ContRep] at hc; subst hc
    simp only [Rep, subL_eq _ _ _ hle, z9z]; exact hs
  | ints2 k xss =>
    simp only [Cont.imm] at hd; cases hd
    simp only [ContRep] at hc
    simp only [Rep, subL_eq _ _ _ hle]
    exact ⟨_, (hc.drop l).take n, hs⟩
  | gen els =>
    simp only [Cont.imm] at hd; cases hd
    simp only [Rep, subL_eq _ _ _ hle]
    exact ⟨_, (hc.1.drop l).take n, fun u hu => hc.2 u (List.mem_of_mem_drop (List.mem_of_mem_take hu)), hs⟩
  | var cells => simp [Cont.imm] at hd
theorem z3x (hX : XOK P X) {t : TypeId} {i ei : TI} {e : TypeId} (ht : X.tt t = some i) (hk : i.kind = .slice e) (he : X.tt e = some ei) (hsz : ei.size = 1) {A : Option Addr} {n c l h m : Nat} {lo hi mx : Option Value}
    (hb : (Instr.sliceBounds true n c lo hi mx).run P w = .ok (l, h, m) w) : (Instr.sliceAt t (.slice A n c) lo hi mx).run P w = .ok (.slice (if m = l then A else A.map (·.add l)) (h - l) (m - l)) w := by
  have hu := (hX.tt t i ht).kind
  rw [hk] at hu
  simp [Instr.sliceAt, Instr.slice, run_underlying hu, hb, za hX he, hsz]
theorem zm7 (hX : XOK P X) (h : SR X.glob F w0 M0 w M mu a.tmps st) {t : TypeId} {i : TI} (ht : X.tt t = some i) {x d : D} {u : Value} {lo hi mx : Option Operand} (hx : Rep w M mu x u)
    (hd : sliceD X i st.rows x (lo.map (ev X st)) (hi.map (ev X st)) (mx.map (ev X st)) = some d) : ∃ r, (Instr.sliceAt t u (lo.map a.eval) (hi.map a.eval) (mx.map a.eval)).run P w = .ok r w ∧ Rep w M mu d r := by
  unfold sliceD at hd
  split at hd
  case h_2 => cases hd
  rename_i e hk
  split at hd
  case h_2 => cases hd
  rename_i ei he
  split at hd
  case isFalse => cases hd
  rename_i hsz
  split at hd
  · -- with a third index
    rename_i m hm
    have key : ∀ {A : Option Addr} {n c : Nat}, (lo.map (ev X st) = none) → (∀ k, hi.map (ev X st) = some (.int k 0) → ∀ k', m = .int k' 0 → (Instr.sliceAt t (.slice A n c) (lo.map a.eval) (hi.map a.eval) (mx.map a.eval)).run P w = .ok (.slice A 0 0) w) := by
      intro A n c hlo k hhi k' hmm
      cases lo with
      | some x => simp at hlo
      | none =>
        cases hi with
        | none => simp at hhi
        | some xh =>
          cases mx with
          | none => simp at hm
          | some xm =>
            simp at hhi hm
            have r1 := ev_rep h xh
            have r2 := ev_rep h xm
            rw [hhi] at r1
            rw [hm, hmm] at r2
            simp only [Rep] at r1 r2
            have := z3x (w := w) hX ht hk he hsz (A := A) (n := n) (c := c) (l := 0) (h := 0) (m := 0) (lo := none) (hi := some (a.eval xh)) (mx := some (a.eval xm))
              (by rw [r1, r2]; simp [Instr.sliceBounds, Instr.sliceBound, asIntOf])
            simpa using this
    split at hd
    · rename_i k kh hlo hhi hmm
      cases hd
      simp only [Rep] at hx
      obtain ⟨A, rfl, hA⟩ := hx
      exact ⟨_, key (by assumption) _ (by assumption) _ rfl, by simp only [Rep]; exact ⟨_, rfl, hA⟩⟩
    · rename_i k xs kh hlo hhi hmm
      cases hd
      simp only [Rep] at hx
      obtain ⟨A, c, rfl, _⟩ := hx
      exact ⟨_, key (by assumption) _ (by assumption) _ rfl, by simp only [Rep]; exact ⟨_, rfl, fun h => by cases h⟩⟩
    · rename_i xs kh hlo hhi hmm
      cases hd
      simp only [Rep] at hx
      obtain ⟨A, c, rfl, _⟩ := hx
      exact ⟨_, key (by assumption) _ (by assumption) _ rfl, by simp only [Rep]; exact ⟨_, rfl, fun h => by cases h⟩⟩
    · rename_i k xs kh hlo hhi hmm
      cases hd
      simp only [Rep] at hx
      obtain ⟨cv, _, A, c, rfl, _⟩ := hx
      exact ⟨_, key (by assumption) _ (by assumption) _ rfl, by simp only [Rep]; exact ⟨_, rfl, fun h => by cases h⟩⟩
    · rename_i xs kh hlo hhi hmm
      cases hd
      simp only [Rep] at hx
      obtain ⟨cv, _, _, A, c, rfl, _⟩ := hx
      exact ⟨_, key (by assumption) _ (by assumption) _ rfl, by simp only [Rep]; exact ⟨_, rfl, fun h => by cases h⟩⟩
    · skip
      rename_i r off n kh hh km m' hhi
      split at hd
      case h_2 => cases hd
      rename_i l hlo
      split at hd
      case isFalse => cases hd
      rename_i hcond
      cases hd
      obtain ⟨A, c, rfl, hnc⟩ : ∃ A c, u = .slice A n c ∧ n ≤ c := by
        simp only [Rep] at hx
        obtain ⟨loc, hl, hs⟩ := hx
        cases loc with
        | nowhere => obtain ⟨rfl, A, rfl⟩ := hs; exact ⟨A, 0, rfl, Nat.le_refl _⟩
        | mapAt b => exact absurd hs id
        | nest => exact absurd hs id
        | at_ b base size =>
          rcases hs with ⟨rfl, _, A, rfl⟩ | ⟨c, rfl, hn, _⟩
          · exact ⟨A, 0, rfl, Nat.le_refl _⟩
          · exact ⟨_, c, rfl, hn⟩
      cases hi with
      | none => simp at hhi
      | some xh => cases mx with
        | none => simp at hm
        | some xm =>
          simp at hhi hm
          have r1 := ev_rep h xh
          have r2 := ev_rep h xm
          rw [hhi] at r1
          rw [hm] at r2
          simp only [Rep] at r1 r2
          have hb : (Instr.sliceBounds true n c (lo.map a.eval) ((some xh).map a.eval) ((some xm).map a.eval)).run P w = .ok (l, hh.toNat, m'.toNat) w := by
            have c1 : (0 : Int) ≤ m' ∧ m' ≤ (c : Int) := by omega
            have c2 : (0 : Int) ≤ hh ∧ hh ≤ (m'.toNat : Int) := by omega
            have c3 : (0 : Int) ≤ (l : Int) ∧ (l : Int) ≤ (hh.toNat : Int) := by omega
            have sb : ∀ (k : IntKind) (i : Int) (y : Nat) (code : BoundsCode), 0 ≤ i ∧ i ≤ (y : Int) → (Instr.sliceBound (.int k i) y code).run P w = .ok i.toNat w := fun k i y code hh => by
              simp [Instr.sliceBound, asIntOf, hh]
            have s1 := sb km m' c
            have s2 := sb kh hh m'.toNat
            rcases bnd_run h hlo with ⟨rfl, rfl⟩ | ⟨k1, g1⟩
            · simp only [Instr.sliceBounds, Option.map_some, Option.map_none, r1, r2, Sem.run_bind, s1 _ c1, s2 _ c2, Result.andThen_ok, Sem.run_pure]
            · have s3 := sb k1 l hh.toNat
              simp only [Instr.sliceBounds, Option.map_some, g1, r1, r2, Sem.run_bind, s1 _ c1, s2 _ c2, s3 _ c3, Result.andThen_ok, Sem.run_pure, Int.toNat_natCast]
          exact ⟨_, z3x hX ht hk he hsz hb, by simp only [Rep]⟩
    · cases hd
  · rename_i hm
    have hmx : mx = none := by cases mx with | none => rfl | some x => simp at hm
    subst hmx
    split at hd
    · rename_i r off n
      split at hd
      case h_2 => cases hd
      rename_i l hh h1 h2
      split at hd
      case isFalse => cases hd
      rename_i hlh
      cases hd
      simp only [Rep] at hx ⊢
      obtain ⟨loc, hl, hs⟩ := hx
      have room : ∀ c, (match loc with | .nowhere => n = 0 ∧ c = 0 | .mapAt _ => False | .nest _ _ _ _ => False | .at_ _ _ size => n ≤ c ∧ off + c = size) → hh ≤ c := by
        intro c hc
        rcases hlh.2 with h3 | h3
        · cases loc with
          | nowhere => simp only at hc; omega
          | mapAt b => exact absurd hc id
          | nest => exact absurd hc (fun h => h)
          | at_ b base size => simp only at hc; omega
        · unfold roomy at h3
          split at h3
          case h_2 => cases h3
          rename_i row hrow
          simp only [Bool.and_eq_true, decide_eq_true_eq] at h3
          obtain ⟨l', e', hh'⟩ := h.rows r row hrow
          rw [hl] at e'
          cases e'
          cases loc with
          | nowhere =>
            have hc' : ContRep w M mu row.c [] := hh'
            have := hc'.len
            simp at this
            omega
          | mapAt b => exact absurd hs id
          | nest => exact absurd hs id
          | at_ b base size =>
            obtain ⟨cs, T, cv, _, _, f3, f4, _⟩ := hh'
            have := f3.len
            simp only at hc
            omega
      cases loc with
      | nowhere =>
        simp only [Loc.slice] at hs
        obtain ⟨rfl, A, rfl⟩ := hs
        have hr0 := room 0 ⟨rfl, rfl⟩
        have hb := z59 (P := P) h h1 h2 hlh.1 hr0
        obtain rfl : hh = 0 := by omega
        obtain rfl : l = 0 := by omega
        exact ⟨_, z3x hX ht hk he hsz hb, _, hl, rfl, A, by simp⟩
      | mapAt b => exact absurd hs id
      | nest => exact absurd hs id
      | at_ b base size =>
        simp only [Loc.slice] at hs
        rcases hs with ⟨rfl, rfl, A, rfl⟩ | ⟨c, rfl, hn, hsize⟩
        · have hr0 := room 0 ⟨Nat.le_refl _, by omega⟩
          have hb := z59 (P := P) h h1 h2 hlh.1 hr0
          obtain rfl : hh = 0 := by omega
          obtain rfl : l = 0 := by omega
          exact ⟨_, z3x hX ht hk he hsz hb, _, hl, .inl ⟨by omega, by omega, A, by simp⟩⟩
        · have hr0 := room c ⟨hn, hsize⟩
          have hb := z59 (P := P) h h1 h2 hlh.1 hr0
          refine ⟨_, z3x hX ht hk he hsz hb, _, hl, ?_⟩
          simp only [Loc.slice]
          by_cases hcl : c = l
          · refine .inl ⟨by omega, by omega, some ⟨b, base + off, none⟩, ?_⟩
            rw [if_pos hcl]
            congr 1 <;> omega
          · refine .inr ⟨c - l, ?_, by omega, by omega⟩
            rw [if_neg hcl]
            simp [zb, Nat.add_assoc]
    · rename_i k
      split at hd
      case h_2 => cases hd
      rename_i h1 h2
      cases hd
      simp only [Rep] at hx
      obtain ⟨A, rfl, hA⟩ := hx
      have hb := z59 (P := P) h h1 h2 (Nat.le_refl _) (Nat.le_refl _)
      exact ⟨_, z3x hX ht hk he hsz hb, by simp only [Rep]; exact ⟨A, by simp, hA⟩⟩
    · rename_i hno1 hno2
      split at hd
      case h_2 => cases hd
      rename_i c hc
      split at hd
      case h_2 => cases hd
      rename_i l hh h1 h2
      split at hd
      case isFalse => cases hd
      rename_i hlh
      obtain ⟨cv, hcr, ⟨A, cap, rfl, hle, hheld⟩, hv⟩ := SlV.cont hX hx hc
      have hlen := hcr.len
      have hb := z59 (P := P) (c := cap) h h1 h2 hlh.1 (by omega)
      rw [← hlen] at hb
      exact ⟨_, z3x hX ht hk he hsz hb, Cont.imm_rep hcr (by omega) hd (SlV.sub rfl hle hheld hlh.1 (by omega))⟩
theorem z91 {cs : List D} {cv : List Value} {mu' : Nat → Option Loc} (h : RepL w M mu' cs cv) : ∀ {vs : List D} {us : List Value} (off : Nat), RepL w M mu' vs us → ∃ cv', RepL w M mu' (setCells cs off vs) cv' ∧ cv'.length = cv.length ∧
    (us.zipIdx.foldl (fun (cs : Array Value) (p : Value × Nat) => cs.setIfInBounds (off + p.2) p.1) cv.toArray).toList = cv' := by
  intro vs
  induction vs generalizing cs cv with
  | nil =>
    intro us off hu
    cases us with
    | nil => exact ⟨cv, h, rfl, by simp⟩
    | cons => simp only [RepL] at hu
  | cons d vs ih =>
    intro us off hu
    cases us with
    | nil => simp only [RepL] at hu
    | cons u us =>
      simp only [RepL] at hu
      obtain ⟨cv', h1, h2, h3⟩ := ih (RepL.set hu.1 off h) (off + 1) hu.2
      refine ⟨cv', h1, by simpa using h2, ?_⟩
      rw [← h3]
      simp only [List.zipIdx_cons, List.foldl_cons, Nat.add_zero, Nat.zero_add]
      have : ∀ (us : List Value) (k : Nat) (arr : Array Value), (us.zipIdx (k + 1)).foldl (fun (cs : Array Value) (p : Value × Nat) => cs.setIfInBounds (off + p.2) p.1) arr = (us.zipIdx k).foldl (fun (cs : Array Value) (p : Value × Nat) => cs.setIfInBounds (off + 1 + p.2) p.1) arr := by
        intro us
        induction us with
        | nil => intro k arr; rfl
        | cons x xs ihx =>
          intro k arr
          simp only [List.zipIdx_cons, List.foldl_cons]
          rw [ihx (k + 1)]
          congr 2
          omega
      rw [this us 0]
      congr 2
      simp
theorem z44 {d : D} {v : Value} {mu' : Nat → Option Loc} (h : Rep w M mu' d v) (hv : d.known = true) : RepL w M mu' d.cells v.cells.toList := by
  cases d <;> simp [D.known] at hv <;> simp only [Rep] at h <;> simp only [D.cells]
  case agg cells => obtain ⟨cv, rfl, h⟩ := h; simpa [Value.cells] using h
  all_goals
    first
      | (subst h; simp [Value.cells, RepL, Rep]; done)
      | (obtain ⟨A, rfl, hA⟩ := h; simp only [Value.cells, RepL, Rep]; exact ⟨⟨A, rfl, hA⟩, trivial⟩)
      | (obtain ⟨cv, rfl, h⟩ := h; simp only [Value.cells, RepL, Rep]; exact ⟨⟨_, rfl, h⟩, trivial⟩)
      | (obtain ⟨A, c, rfl, h⟩ := h; simp only [Value.cells, RepL, Rep]; exact ⟨⟨A, c, rfl, h⟩, trivial⟩)
      | (obtain ⟨cv, h1, A, c, rfl, h⟩ := h; simp only [Value.cells, RepL, Rep]; exact ⟨⟨cv, h1, A, c, rfl, h⟩, trivial⟩)
      | (obtain ⟨cv, h0, h1, A, c, rfl, h⟩ := h; simp only [Value.cells, RepL, Rep]; exact ⟨⟨cv, h0, h1, A, c, rfl, h⟩, trivial⟩)
      | (obtain ⟨ad, cv, rfl, h⟩ := h; simp only [Value.cells, RepL, Rep]; exact ⟨⟨ad, cv, rfl, h⟩, trivial⟩)
      | (obtain ⟨A, c, cv, rfl, h⟩ := h; simp only [Value.cells, RepL, Rep]; exact ⟨⟨A, c, cv, rfl, h⟩, trivial⟩)
      | skip
  case mpr r =>
    obtain ⟨b, hl, rfl⟩ := h
    simp only [Value.cells, RepL, Rep]; exact ⟨⟨b, hl, rfl⟩, trivial⟩
  case npe r j =>
    obtain ⟨l, hl, hs⟩ := h
    obtain ⟨a, rfl⟩ := Loc.ocell_form hs
    simp only [Value.cells, RepL, Rep]; exact ⟨⟨l, hl, hs⟩, trivial⟩
  case nep r j i =>
    obtain ⟨l, hl, hs⟩ := h
    obtain ⟨a, rfl⟩ := Loc.icell_form hs
    simp only [Value.cells, RepL, Rep]; exact ⟨⟨l, hl, hs⟩, trivial⟩
  case nsl r n =>
    obtain ⟨l, hl, hs⟩ := h
    obtain ⟨A, c, rfl, _⟩ := Loc.outer_form hs
    simp only [Value.cells, RepL, Rep]; exact ⟨⟨l, hl, hs⟩, trivial⟩
  case nel r j n =>
    obtain ⟨l, hl, hs⟩ := h
    obtain ⟨A, c, rfl, _⟩ := Loc.inner_form hs
    simp only [Value.cells, RepL, Rep]; exact ⟨⟨l, hl, hs⟩, trivial⟩
  case rcs r sz n =>
    obtain ⟨l, hl, hs⟩ := h
    obtain ⟨A, c, rfl, _⟩ := Loc.recs_form hs
    simp only [Value.cells, RepL, Rep]; exact ⟨⟨l, hl, hs⟩, trivial⟩
  case rpe r sz i f =>
    obtain ⟨l, hl, hs⟩ := h
    obtain ⟨a, rfl⟩ := Loc.cell_form hs
    simp only [Value.cells, RepL, Rep]; exact ⟨⟨l, hl, hs⟩, trivial⟩
  all_goals
    obtain ⟨l, hl, hs⟩ := h
    cases l with
    | mapAt b => exact absurd hs id
    | nest => exact absurd hs id
    | nowhere => first | (simp [Loc.cell] at hs; done) | (obtain ⟨h0, A, rfl⟩ := hs; simp only [Value.cells, RepL, Rep]; exact ⟨⟨_, hl, h0, A, rfl⟩, trivial⟩)
    | at_ b base size => first | (simp only [Loc.cell] at hs; subst hs; simp only [Value.cells, RepL, Rep]; exact ⟨⟨_, hl, rfl⟩, trivial⟩) | (rcases hs with ⟨h0, h1, A, rfl⟩ | ⟨c, rfl, h1⟩ <;> simp only [Value.cells, RepL, Rep] <;> first | exact ⟨⟨_, hl, .inl ⟨h0, h1, A, rfl⟩⟩, trivial⟩ | exact ⟨⟨_, hl, .inr ⟨c, rfl, h1⟩⟩, trivial⟩)
theorem z7l (hX : XOK P X) {fs : List (Nat × TypeId)} {place : Nat → Option (Nat × Nat)} (hp : ∀ (f off : Nat) (ft : TypeId) (fi : TI), fs[f]? = some (off, ft) → X.tt ft = some fi → place f = some (off, fi.size)) :
    ∀ (ps : List (Nat × D)) (us : List (Nat × Value)) (cs : List D) (cv : List Value) (res : List D), All2 (fun p u => p.1 = u.1 ∧ Rep w M mu p.2 u.2) ps us → RepL w M mu cs cv → buildD X fs cs ps = some res →
      ∃ cv', Instr.fill place cv.toArray us = some cv'.toArray ∧ RepL w M mu res cv'
  | [], [], cs, cv, res, _, hr, hb => by simp only [buildD] at hb; cases hb; exact ⟨cv, by simp [Instr.fill], hr⟩
  | [], _ :: _, _, _, _, h, _, _ => by simp [All2] at h
  | _ :: _, [], _, _, _, h, _, _ => by simp [All2] at h
  | (f, d) :: ps, (g, u) :: us, cs, cv, res, h, hr, hb => by
    obtain ⟨⟨rfl, hd⟩, hrest⟩ := h
    simp only [buildD] at hb
    split at hb
    case h_2 => cases hb
    rename_i off ft hft
    split at hb
    case h_2 => cases hb
    rename_i fi hfi
    split at hb
    case isFalse => cases hb
    rename_i hh
    obtain ⟨hk, hl, hle⟩ := hh
    have hc := z44 hd hk
    have hlen := hc.length
    obtain ⟨cv', h1, h2, h3⟩ := z91 hr off hc
    obtain ⟨cv'', h4, h5⟩ := z7l hX hp ps us _ cv' res hrest h1 hb
    refine ⟨cv'', ?_, h5⟩
    rw [← h4]
    have hus : u.cells.size = fi.size := by simpa [hl] using hlen.symm
    have hcs := hr.length
    simp only [Instr.fill, hp _ _ _ _ hft hfi]
    rw [if_neg (by simp [hus]; omega)]
    congr 1
    apply Array.ext'
    rw [← h3]
    simp only [← Array.foldl_toList, Array.toList_zipIdx]
theorem zc2 (hX : XOK P X) : ∀ (fields : List Field), (fields.map (fun f => (f.offset, f.type))).all (fun p => (X.tt p.2).isSome) = true → ∃ pl : List (Nat × Nat), (fields.mapM fun (f : Field) => do pure (f.offset, ← sizeOf f.type)).run P w = .ok pl w ∧
    ∀ (f off : Nat) (ft : TypeId) (fi : TI), (fields.map (fun f => (f.offset, f.type)))[f]? = some (off, ft) → X.tt ft = some fi → pl[f]? = some (off, fi.size)
  | [], _ => ⟨[], by simp, by simp⟩
  | fld :: fields, h => by
    simp only [List.map_cons, List.all_cons, Bool.and_eq_true] at h
    obtain ⟨pl, h1, h2⟩ := zc2 hX fields h.2
    obtain ⟨fi, hfi⟩ := Option.isSome_iff_exists.1 h.1
    refine ⟨(fld.offset, fi.size) :: pl, ?_, ?_⟩
    · simp only [List.mapM_cons, Sem.run_bind, za hX hfi, Result.andThen_ok, Sem.run_pure, h1]
    · intro f off ft fi' hf hfi'
      cases f with
      | zero => simp at hf; obtain ⟨rfl, rfl⟩ := hf; rw [hfi] at hfi'; cases hfi'; simp
      | succ f => simpa using h2 f off ft fi' (by simpa using hf) hfi'
theorem z8k {cs : List D} {vs : List Value} {mu : Nat → Option Loc} (h : RepL w M mu cs vs) {off : Nat} {k k' : NK} (hk : k' ≠ .unk) (e : cs.getD off .any = .nil k) : RepL w M mu (cs.set off (.nil k')) vs := by
  rcases Nat.lt_or_ge off cs.length with hlt | hge
  · have e1 : cs[off]? = some (.nil k) := by
      rw [List.getD_eq_getElem?_getD, List.getElem?_eq_getElem hlt] at e
      rw [List.getElem?_eq_getElem hlt]
      simpa using e
    obtain ⟨v, hv, hr⟩ := h.get off _ e1
    have hs := RepL.set (d := .nil k') (v := v) (by
      simp only [Rep] at hr ⊢
      obtain ⟨A, rfl, _⟩ := hr
      exact ⟨A, rfl, fun h => absurd h hk⟩) off h
    have hvv : vs.set off v = vs := by
      obtain ⟨hl, he⟩ := List.getElem?_eq_some_iff.1 hv
      rw [← he]; exact List.set_getElem_self hl
    rwa [hvv] at hs
  · rw [List.set_eq_of_length_le hge]; exact h
theorem z68 {mu : Nat → Option Loc} : ∀ (fs : List (Nat × TypeId)) {cs : List D} {vs : List Value}, RepL w M mu cs vs → RepL w M mu (nestF X fs cs) vs
  | [], cs, vs, h => h
  | (off, ft) :: fs, cs, vs, h => by
    simp only [nestF]
    apply z68 fs
    split
    · rename_i k' e
      split
      · exact z8k h (fun h => by cases h) e
      · exact z8k h (fun h => by cases h) e
      · exact z8k h (fun h => by cases h) e
      · exact h
    · exact h
theorem zpi {mu : Nat → Option Loc} {o : Oper} {fs : List (Nat × TypeId)} {zero : List D} {vs : List Value} (h : RepL w M mu zero vs) : RepL w M mu (zeroF X o fs zero) vs := by
  unfold zeroF
  split
  · exact z68 fs h
  · exact h
theorem zez (hX : XOK P X) (h : SR X.glob F w0 M0 w M mu a.tmps st) {t : TypeId} {i : TI} (ht : X.tt t = some i) {fs : List (Nat × TypeId)} (hk : i.kind = .struct fs) (hall : (fs.all fun p => (X.tt p.2).isSome) = true) {parts : Array (Nat × Operand)} {res : List D} {o' : Oper}
    (hb : buildD X fs (zeroF X o' fs i.zero) (parts.toList.map fun p => (p.1, ev X st p.2)) = some res) : ∃ r, (Instr.build t (parts.map fun (i, x) => (i, a.eval x))).run P w = .ok r w ∧ Rep w M mu (.agg res) r := by
  obtain ⟨ti, z, h1, h2, h3, h4, h5, _⟩ := (hX.tt t i ht).info
  have hu := (hX.tt t i ht).kind
  rw [hk] at hu
  obtain ⟨fields, hu, hf⟩ := hu
  subst hf
  obtain ⟨pl, g1, g2⟩ := zc2 (w := w) hX fields.toList hall
  have hzero : RepL w M mu (zeroF X o' (fields.toList.map fun f => (f.offset, f.type)) i.zero) z.cells.toList := zpi (z4u h5)
  have hparts : ∀ (ps : List (Nat × Operand)), All2 (fun (p : Nat × D) (u : Nat × Value) => p.1 = u.1 ∧ Rep w M mu p.2 u.2) (ps.map fun p => (p.1, ev X st p.2)) (ps.map fun p => (p.1, a.eval p.2)) := by
    intro ps
    induction ps with
    | nil => simp [All2]
    | cons p ps ih => exact ⟨⟨rfl, ev_rep h p.2⟩, ih⟩
  obtain ⟨cv', k1, k2⟩ := z7l (place := fun f => pl[f]?) hX (fun f off ft fi hft hfi => g2 f off ft fi hft hfi) _ _ _ _ _ (hparts parts.toList) hzero hb
  refine ⟨.agg cv'.toArray, ?_, by simp only [Rep]; exact ⟨_, rfl, k2⟩⟩
  have hm : (fields.mapM fun (f : Field) => do pure (f.offset, ← sizeOf f.type)).run P w = .ok pl.toArray w := by
    rw [Array.mapM_eq_mapM_toList]
    simp only [Sem.run_map, g1, Result.andThen_ok]
  have hp2 : (parts.map fun (x : Nat × Operand) => (x.1, a.eval x.2)).toList = parts.toList.map fun p => (p.1, a.eval p.2) := by simp
  simp only [Instr.build, Sem.run_bind, zeroValue, typeInfo, run_program, h1, Result.andThen_ok, Sem.run_pure, h4, run_underlying hu, hm]
  rw [hp2]
  have : Instr.fill (fun x => pl.toArray[x]?) z.cells (parts.toList.map fun p => (p.1, a.eval p.2)) = some cv'.toArray := by
    rw [← k1]
    congr 1
    · funext f; simp
  rw [this]
  rfl
theorem zex (hX : XOK P X) (h : SR X.glob F w0 M0 w M mu a.tmps st) {t e : TypeId} {i ei : TI} {n : Nat} (ht : X.tt t = some i) (hk : i.kind = .array n e) (he : X.tt e = some ei) {parts : Array (Nat × Operand)} {res : List D}
    (hb : buildD X (placesA n ei.size e) i.zero (parts.toList.map fun p => (p.1, ev X st p.2)) = some res) : ∃ r, (Instr.build t (parts.map fun (i, x) => (i, a.eval x))).run P w = .ok r w ∧ Rep w M mu (.agg res) r := by
  obtain ⟨ti, z, h1, h2, h3, h4, h5, _⟩ := (hX.tt t i ht).info
  have hu := (hX.tt t i ht).kind
  rw [hk] at hu
  simp only [KindOK] at hu
  have hzero : RepL w M mu i.zero z.cells.toList := z4u h5
  have hparts : ∀ (ps : List (Nat × Operand)), All2 (fun (p : Nat × D) (u : Nat × Value) => p.1 = u.1 ∧ Rep w M mu p.2 u.2) (ps.map fun p => (p.1, ev X st p.2)) (ps.map fun p => (p.1, a.eval p.2)) := by
    intro ps
    induction ps with
    | nil => simp [All2]
    | cons p ps ih => exact ⟨⟨rfl, ev_rep h p.2⟩, ih⟩
  obtain ⟨cv', k1, k2⟩ := z7l (place := fun f => some (f * ei.size, ei.size)) hX (fun f off ft fi hft hfi => by
    unfold placesA at hft
    rw [List.getElem?_map] at hft
    obtain ⟨g, hg, hge⟩ := Option.map_eq_some_iff.1 hft
    obtain ⟨hg1, hg2⟩ := List.getElem?_eq_some_iff.1 hg
    rw [List.getElem_range] at hg2
    subst hg2
    cases hge
    rw [he] at hfi
    cases hfi
    rfl) _ _ _ _ _ (hparts parts.toList) hzero hb
  refine ⟨.agg cv'.toArray, ?_, by simp only [Rep]; exact ⟨_, rfl, k2⟩⟩
  have hp2 : (parts.map fun (x : Nat × Operand) => (x.1, a.eval x.2)).toList = parts.toList.map fun p => (p.1, a.eval p.2) := by simp
  simp only [Instr.build, Sem.run_bind, zeroValue, typeInfo, run_program, h1, Result.andThen_ok, Sem.run_pure, h4, run_underlying hu, za hX he]
  rw [hp2]
  have : Instr.fill (fun x => some (x * ei.size, ei.size)) z.cells (parts.toList.map fun p => (p.1, a.eval p.2)) = some cv'.toArray := k1
  rw [this]
  rfl
theorem map_at (h : SR X.glob F w0 M0 w M mu a.tmps st) {r : Nat} {v : Value} (hx : Rep w M mu (.mpr r) v) {wr : Bool} {c : Cont} (hr : st.rows r = some ⟨wr, c⟩) :
    ∃ b arr clock, v = .map (some b) ∧ w.heap[b]? = some (.map arr clock) ∧ MapRep c arr ∧ mu r = some (.mapAt b) ∧ (wr = true → M b ∧ F b) := by
  simp only [Rep] at hx
  obtain ⟨b, hb, rfl⟩ := hx
  obtain ⟨l, e, hh⟩ := h.rows r _ hr
  rw [hb] at e
  cases e
  obtain ⟨arr, clock, h1, h2, _, h6, _⟩ := hh
  exact ⟨b, arr, clock, rfl, h1, h2, hb, h6⟩
def KeyTy (P : Program) (ke : TypeId) : MK → Prop
  | .int k => P.underlying ke = some (.int k)
  | .two k => ∃ e, P.underlying ke = some (.array 2 e) ∧ P.underlying e = some (.int k) ∧ ∀ w : World, (sizeOf e).run P w = .ok 1 w
  | .str => P.underlying ke = some .string
theorem zat (key : Int × Int) (vk : MV) : ∀ (es : List MEnt) (L : List MapEntry) (i : Nat), L.map (fun e => (e.key, e.val)) = es.map (fun p => (MK.str.val p.1, vk.val p.2)) →
    Instr.findNow .string (MK.str.val key) L i = some ((mfind .str key es i).map fun x => (x.1, vk.val x.2))
  | [], [], i, _ => rfl
  | [], _ :: _, _, h => by simp at h
  | _ :: _, [], _, h => by simp at h
  | p :: es, e :: L, i, h => by
    simp only [List.map_cons, List.cons.injEq, Prod.mk.injEq] at h
    obtain ⟨⟨h1, h2⟩, h3⟩ := h
    have ih := zat key vk es L (i + 1) h3
    unfold Instr.findNow
    rw [h1]
    simp only [MK.val, Instr.sameNow, mfind, MK.same] at ih ⊢
    by_cases hk : (decS key.1 == decS p.1.1) = true
    · simp [hk, h2]
    · have hb : (decS key.1 == decS p.1.1) = false := by simpa using hk
      simp [hb, ih]
theorem zas {k q : IntKind} (key : Int × Int) (vk : MV) : ∀ (es : List MEnt) (L : List MapEntry) (i : Nat), L.map (fun e => (e.key, e.val)) = es.map (fun p => ((MK.int k).val p.1, vk.val p.2)) →
    Instr.findNow (.int q) (.int k key.1) L i = some ((mfind (.int k) key es i).map fun x => (x.1, vk.val x.2))
  | [], [], i, _ => rfl
  | [], _ :: _, _, h => by simp at h
  | _ :: _, [], _, h => by simp at h
  | p :: es, e :: L, i, h => by
    simp only [List.map_cons, List.cons.injEq, Prod.mk.injEq] at h
    obtain ⟨⟨h1, h2⟩, h3⟩ := h
    have ih := zas (k := k) (q := q) key vk es L (i + 1) h3
    unfold Instr.findNow
    rw [h1]
    simp only [MK.val, Instr.sameNow, mfind, MK.same, if_pos]
    by_cases hk : key.1 = p.1.1
    · simp [hk, h2]
    · have hb : (key.1 == p.1.1) = false := by simpa using hk
      simp [hb, ih]
theorem zbi {kk : MK} {d : D} {key : Int × Int} {v : Value} (h : keyD kk d = some key) (hv : Rep w M mu d v) : v = kk.val key := by
  unfold keyD at h
  split at h
  · split at h
    case isFalse => cases h
    rename_i hk
    subst hk
    cases h
    simpa only [Rep, MK.val] using hv
  · split at h
    case isFalse => cases h
    rename_i hk
    obtain ⟨rfl, rfl⟩ := hk
    cases h
    simp only [Rep] at hv
    obtain ⟨cv, rfl, hv⟩ := hv
    match cv, hv with
    | [x, y], hv =>
      simp only [RepL, Rep] at hv
      obtain ⟨rfl, rfl, _⟩ := hv
      rfl
    | [], hv => simp only [RepL] at hv
    | [_], hv => simp only [RepL] at hv; exact hv.2.elim
    | _ :: _ :: _ :: _, hv => simp only [RepL] at hv; exact hv.2.2.elim
  · cases h
    simp only [Rep] at hv
    rw [hv]
    simp only [MK.val, zff]
  · cases h
theorem zak (vk : MV) (x : Int) : Rep w M mu (elemD vk x) (vk.val x) := by
  cases vk <;> simp only [elemD, MV.val, Rep]
theorem zfo (hX : XOK P X) {el : TypeId} {vk : MV} (h : elK X el = some vk) (w : World) : (zeroValue el).run P w = .ok (vk.val 0) w := by
  unfold elK at h
  split at h
  · rename_i k' _ _ _ h2
    cases h
    obtain ⟨ti, z, g1, _, _, g4, _⟩ := (hX.tt _ _ h2).info
    have g5 := (hX.tt _ _ h2).zfit ti z g1 g4
    have g6 : z = .int k' 0 := by
      cases z <;> simp [zeroFit] at g5
      obtain ⟨rfl, rfl⟩ := g5; rfl
    simp [zeroValue, typeInfo, g1, g4, g6, MV.val]
  · rename_i _ _ _ h2
    cases h
    obtain ⟨ti, z, g1, _, _, g4, _⟩ := (hX.tt _ _ h2).info
    have g5 := (hX.tt _ _ h2).zfit ti z g1 g4
    have g6 : z = .bool false := by
      cases z <;> simp [zeroFit] at g5
      subst g5; rfl
    simp [zeroValue, typeInfo, g1, g4, g6, MV.val]
  · cases h
theorem keyK_ty (hX : XOK P X) {ke : TypeId} {kk : MK} (h : keyK X ke = some kk) : KeyTy P ke kk := by
  unfold keyK at h
  split at h
  · rename_i k _ _ _ h1
    cases h
    exact (hX.tt _ _ h1).kind
  · rename_i h1
    cases h
    exact (hX.tt _ _ h1).kind
  · rename_i n e _ _ _ h1
    split at h
    case isFalse => cases h
    rename_i hn
    subst hn
    split at h
    case h_2 => cases h
    rename_i k _ _ _ h2
    cases h
    refine ⟨e, (hX.tt _ _ h1).kind, (hX.tt _ _ h2).kind, fun w => ?_⟩
    rw [za hX h2]
    obtain ⟨ti, z, g1, _, _, g4, _, g6⟩ := (hX.tt _ _ h2).info
    have g5 := (hX.tt _ _ h2).zfit ti z g1 g4
    have g7 : z = .int k 0 := by
      cases z <;> simp [zeroFit] at g5
      obtain ⟨rfl, rfl⟩ := g5; rfl
    rw [g7] at g6
    rw [← g6]; rfl
  · cases h
theorem zc1 (hX : XOK P X) {ke el : TypeId} {kk : MK} {vk : MV} (h : mapKV X ke el = some (kk, vk)) : KeyTy P ke kk ∧ ∀ w : World, (zeroValue el).run P w = .ok (vk.val 0) w := by
  unfold mapKV at h
  split at h
  · rename_i h1 h2
    cases h
    exact ⟨keyK_ty hX h1, zfo hX h2⟩
  · cases h
theorem z6b {e : TypeId} {k : IntKind} (he : P.underlying e = some (.int k)) (cs : Array Value) (off : Nat) {v : Value} (h : cs[off]? = some v) (w : World) : (part e cs off).run P w = .ok v w := by
  simp [part, isAgg, run_underlying he, h]
theorem za5 {ke : TypeId} {k : IntKind} (hu : P.underlying ke = some (.int k)) (e : Bool) (d : Nat) (v : Value) (w : World) (hv : ∃ k' n, v = .int k' n) : (Instr.checkKey e (d + 1) ke v).run P w = .ok () w := by
  obtain ⟨k', n, rfl⟩ := hv
  unfold Instr.checkKey
  simp [run_underlying hu]
theorem z5g {ke : TypeId} {kk : MK} (h : KeyTy P ke kk) (e : Bool) (key : Int × Int) (w : World) : (Instr.checkKey e 10000 ke (kk.val key)).run P w = .ok () w := by
  cases kk with
  | int k => exact za5 h e 9999 _ w ⟨k, key.1, rfl⟩
  | str =>
    have hu : P.underlying ke = some .string := h
    show (Instr.checkKey e (9999 + 1) ke _).run P w = _
    unfold Instr.checkKey
    simp [run_underlying hu]
  | two k =>
    obtain ⟨el, hu, he, hs⟩ := h
    show (Instr.checkKey e (9999 + 1) ke _).run P w = _
    unfold Instr.checkKey
    simp only [MK.val, Sem.run_bind, run_underlying hu, Result.andThen_ok]
    have h0 := z6b he #[Value.int k key.1, Value.int k key.2] 0 (v := .int k key.1) rfl
    have h1 := z6b he #[Value.int k key.1, Value.int k key.2] 1 (v := .int k key.2) rfl
    have c0 := fun v w hv => za5 he e 9998 v w hv
    simp only [Std.Legacy.Range.forIn_eq_forIn_range', Std.Legacy.Range.size, Nat.sub_zero, Nat.add_sub_cancel, Nat.div_one, List.range'_succ, List.range'_zero, List.forIn_cons, List.forIn_nil]
    simp [hs, h0, h1, c0 _ _ ⟨k, key.1, rfl⟩, c0 _ _ ⟨k, key.2, rfl⟩]
theorem zft {ke el : TypeId} {k q : IntKind} (hu : P.underlying ke = some (.array 2 el)) (he : P.underlying el = some (.int q)) (hs : ∀ w : World, (sizeOf el).run P w = .ok 1 w) (a b c d : Int) (w : World) :
    (Op.equal ke (.agg #[.int k a, .int k b]) (.agg #[.int k c, .int k d])).run P w = .ok (a == c && b == d) w := by
  show (Op.equalIn (9999 + 1) ke _ _).run P w = _
  have e1 : ∀ (x y : Int) (w : World), (Op.equalIn (9998 + 1) el (.int k x) (.int k y)).run P w = .ok (x == y) w := fun x y w => by
    rw [Op.equalIn]
    simp [run_underlying he]
  have h0 := fun (x y : Int) => z6b he #[Value.int k x, Value.int k y] 0 (v := .int k x) rfl
  have h1 := fun (x y : Int) => z6b he #[Value.int k x, Value.int k y] 1 (v := .int k y) rfl
  rw [Op.equalIn]
  simp only [Sem.run_bind, run_underlying hu, Result.andThen_ok, hs]
  simp only [Std.Legacy.Range.forIn_eq_forIn_range', Std.Legacy.Range.size, Nat.sub_zero, Nat.add_sub_cancel, Nat.div_one, List.range'_succ, List.range'_zero, List.forIn_cons, List.forIn_nil]
  by_cases g1 : a = c <;> by_cases g2 : b = d <;> simp [h0, h1, e1, g1, g2]
theorem zaq {ke el : TypeId} {k q : IntKind} (hu : P.underlying ke = some (.array 2 el)) (he : P.underlying el = some (.int q)) (hs : ∀ w : World, (sizeOf el).run P w = .ok 1 w) (key : Int × Int) (vk : MV) (w : World) :
    ∀ (es : List MEnt) (L : List MapEntry) (i : Nat), L.map (fun e => (e.key, e.val)) = es.map (fun p => ((MK.two k).val p.1, vk.val p.2)) →
    (Instr.findAsking ke ((MK.two k).val key) L i).run P w = .ok ((mfind (.two k) key es i).map fun x => (x.1, vk.val x.2)) w
  | [], [], i, _ => rfl
  | [], _ :: _, _, h => by simp at h
  | _ :: _, [], _, h => by simp at h
  | p :: es, e :: L, i, h => by
    simp only [List.map_cons, List.cons.injEq, Prod.mk.injEq] at h
    obtain ⟨⟨h1, h2⟩, h3⟩ := h
    have ih := zaq hu he hs key vk w es L (i + 1) h3
    have heq : (Op.equal ke ((MK.two k).val key) ((MK.two k).val p.1)).run P w = .ok ((MK.two k).same key p.1) w := zft (k := k) hu he hs _ _ _ _ w
    unfold Instr.findAsking
    rw [h1, mfind]
    simp only [Sem.run_bind, heq, Result.andThen_ok]
    by_cases hb : (MK.two k).same key p.1 = true
    · rw [if_pos hb, if_pos hb, h2]; rfl
    · rw [if_neg hb, if_neg hb]; exact ih
theorem zar {ke : TypeId} {kk : MK} (h : KeyTy P ke kk) (key : Int × Int) {vk : MV} {es : List MEnt} {arr : Array MapEntry} (hm : MapRep (.mp kk vk es) arr) (w : World) :
    (Instr.findKey ke (kk.val key) arr.toList).run P w = .ok ((mfind kk key es 0).map fun x => (x.1, vk.val x.2)) w := by
  cases kk with
  | int k =>
    have := zas (q := k) key vk es arr.toList 0 hm
    have hu : P.underlying ke = some (.int k) := h
    simp only [MK.val]
    simp [Instr.findKey, run_underlying hu, this]
  | str =>
    have := zat key vk es arr.toList 0 hm
    have hu : P.underlying ke = some .string := h
    simp [Instr.findKey, run_underlying hu, this]
  | two k =>
    obtain ⟨el, hu, he, hs⟩ := h
    have ha := zaq hu he hs key vk w es arr.toList 0 hm
    unfold Instr.findKey
    simp only [Sem.run_bind, run_underlying hu, Result.andThen_ok]
    have hn : Instr.findNow (.array 2 el) ((MK.two k).val key) arr.toList 0 = none ∨ (Instr.findNow (.array 2 el) ((MK.two k).val key) arr.toList 0 = some none ∧ es = []) := by
      cases hL : arr.toList with
      | nil =>
        right
        have hm' : arr.toList.map (fun e => (e.key, e.val)) = es.map fun p => ((MK.two k).val p.1, vk.val p.2) := hm
        rw [hL] at hm'
        exact ⟨rfl, by simpa using hm'.symm⟩
      | cons x L => left; simp [Instr.findNow, Instr.sameNow]
    rcases hn with hn | ⟨hn, rfl⟩
    · rw [hn]; exact ha
    · rw [hn]; rfl
theorem zjy (hX : XOK P X) (h : SR X.glob F w0 M0 w M mu a.tmps st) {t ke el : TypeId} {s b : Nat} {z : List D} (ht : X.tt t = some ⟨.map ke el, s, b, z⟩) {x ix d : D} {u v : Value} {ok : Bool}
    (hx : Rep w M mu x u) (hix : Rep w M mu ix v) (hd : lookupD X ke el st.rows x ix ok = some d) : ∃ r, (Instr.lookup t u v ok).run P w = .ok r w ∧ Rep w M mu d r := by
  have hk := (hX.tt _ _ ht).kind
  simp only [KindOK] at hk
  unfold lookupD at hd
  split at hd
  case h_2 => cases hd
  rename_i kk vk r hkv
  split at hd
  case h_2 => cases hd
  rename_i wr kk' vk' es hrow
  split at hd
  case isFalse => cases hd
  rename_i hkk
  obtain ⟨rfl, rfl⟩ := hkk
  split at hd
  case h_2 => cases hd
  rename_i key hkey
  cases hd
  obtain ⟨hu, hz⟩ := zc1 hX hkv
  obtain ⟨bl, arr, clock, rfl, hb, hm, _⟩ := map_at h hx hrow
  obtain rfl := zbi hkey hix
  have hf := zar hu key hm w
  refine ⟨if ok then .tuple #[vk.val ((mget kk es key).getD 0), .bool (mget kk es key).isSome] else vk.val ((mget kk es key).getD 0), ?_, ?_⟩
  · unfold mget
    cases hf2 : mfind kk key es 0 with
    | none =>
      rw [hf2] at hf
      simp [Instr.lookup, run_underlying hk, getObj, Sem.run, hb, z5g hu, hf, hz]
    | some p =>
      rw [hf2] at hf
      simp [Instr.lookup, run_underlying hk, getObj, Sem.run, hb, z5g hu, hf]
  · cases ok
    · exact zak _ _
    · simp only [if_true, Rep]
      exact ⟨[_, _], rfl, by simp only [RepL]; exact ⟨zak _ _, by simp only [Rep], trivial⟩⟩
theorem zc7 (hX : XOK P X) {d : D} {b : Bool} {v : Value} (hn : d.nils = some b) (hx : Rep w M mu d v) : ∃ A n c, v = .slice A n c ∧ A.isNone = b := by
  unfold D.nils at hn
  split at hn
  · cases hn
    simp only [Rep] at hx
    obtain ⟨A, rfl, hA⟩ := hx
    exact ⟨A, 0, 0, rfl, by rw [hA trivial]; rfl⟩
  · split at hn
    case isFalse => cases hn
    rename_i hs
    cases hn
    unfold D.some? at hs
    split at hs
    · simp only [Rep] at hx
      obtain ⟨l, hl, hsl⟩ := hx
      simp only [decide_eq_true_eq] at hs
      cases l with
      | nowhere => obtain ⟨rfl, _⟩ := hsl; omega
      | mapAt b => exact absurd hsl id
      | nest => exact absurd hsl id
      | at_ b base size =>
        rcases hsl with ⟨rfl, _⟩ | ⟨c, e, _⟩
        · omega
        · exact ⟨_, _, c, e, rfl⟩
    · split at hs
      case h_2 => cases hs
      rename_i c hc
      simp only [decide_eq_true_eq] at hs
      obtain ⟨cv, hcr, ⟨A, cap, e, _, hh⟩, _⟩ := SlV.cont hX hx hc
      have := hcr.len
      rcases hh with rfl | ⟨ad, rfl, _⟩
      · simp at this; omega
      · exact ⟨_, _, cap, e, rfl⟩
theorem zfc (hX : XOK P X) (h : SR X.glob F w0 M0 w M mu a.tmps st) {s dt : TypeId} {si di : TI} (hs : X.tt s = some si) (hd : X.tt dt = some di) {x d : D} {v : Value} (hx : Rep w M mu x v) (hq : convS X st.rows si di x = some d) :
    ∃ r, (convert s dt v).run P w = .ok r w ∧ Rep w M mu d r := by
  have u1 := (hX.tt _ _ hs).kind
  have u2 := (hX.tt _ _ hd).kind
  unfold convS at hq
  split at hq
  case h_2 => cases hq
  rename_i e e1 e2
  rw [e1] at u1
  rw [e2] at u2
  split at hq
  case h_2 => cases hq
  rename_i he
  have u3 := (hX.tt _ _ he).kind
  simp only [KindOK] at u1 u2 u3
  have key : ∀ (A : Option Addr) (n c : Nat) (xs : List Int), xs.length = n → (xs = [] ∨ ∃ ad, A = some ad ∧ ∀ j, j < xs.length → w.cell? (ad.add j) = (intsV .u8 xs)[j]?) → (convert s dt (.slice A n c)).run P w = .ok (.string (bytesOf xs)) w := by
    intro A n c xs hl hh
    rw [run_convert_bytes_string w s dt e A n c u1 u3 u2]
    cases A with
    | none =>
      rcases hh with rfl | ⟨ad, e, _⟩
      · simp [Conv.bytesToString, bytesOf]
      · cases e
    | some ad =>
      refine run_bytesToString w ad n c xs ?_
      have hc : cellsAt w ad (intsV .u8 xs) := by
        intro j u hu
        rcases hh with rfl | ⟨ad', e, hcell⟩
        · simp [intsV] at hu
        · cases e
          have hj : j < xs.length := by
            have := (List.getElem?_eq_some_iff.1 hu).1
            simpa [intsV] using this
          exact (hcell j hj).trans hu
      have hn : n ≤ (intsV .u8 xs).length := by simp [intsV, hl]
      have := zbu P hc n hn
      rwa [List.take_of_length_le (by simp [intsV, hl])] at this
  unfold strOf at hq
  split at hq
  · cases hq
    simp only [Rep] at hx ⊢
    obtain ⟨A, rfl, _⟩ := hx
    exact ⟨_, key A 0 0 [] rfl (.inl rfl), rfl⟩
  · rename_i xs
    cases hq
    simp only [Rep] at hx ⊢
    obtain ⟨A, c, rfl, hle, hh⟩ := hx
    refine ⟨_, key A _ c xs (by simp [intsV]) ?_, rfl⟩
    rcases hh with h0 | ⟨ad, e, _, hc⟩
    · exact .inl (by simpa [intsV] using h0)
    · exact .inr ⟨ad, e, fun j hj => hc j (by simpa [intsV] using hj)⟩
  · rename_i r off n
    split at hq
    case h_2 => cases hq
    rename_i wr xs hrow
    split at hq
    case isFalse => cases hq
    rename_i hle
    cases hq
    simp only [Rep] at hx ⊢
    obtain ⟨l, hl, hsl⟩ := hx
    obtain ⟨l', cv, e', hc, hat, hno, _⟩ := z6f h hrow
    rw [hl] at e'
    cases e'
    have hc : cv = intsV .u8 xs := hc
    have hlen : (subL xs off n).length = n := by rw [subL_eq _ _ _ hle]; simp; omega
    cases l with
    | nowhere =>
      obtain ⟨rfl, A, rfl⟩ := hsl
      exact ⟨_, key A 0 0 _ hlen (.inl (List.eq_nil_of_length_eq_zero hlen)), rfl⟩
    | at_ b base size =>
      rcases hsl with ⟨rfl, _, A, rfl⟩ | ⟨c, rfl, hn, hsz⟩
      · exact ⟨_, key A 0 0 _ hlen (.inl (List.eq_nil_of_length_eq_zero hlen)), rfl⟩
      · refine ⟨_, key _ n c _ hlen (.inr ⟨_, rfl, fun j hj => ?_⟩), rfl⟩
        rw [hlen] at hj
        rw [zb, subL_eq _ _ _ hle, Nat.add_assoc]
        obtain ⟨_, hcell⟩ := hat b base size rfl
        have hx : xs[off + j]? = some (xs.getD (off + j) 0) := by rw [List.getD_eq_getElem?_getD, List.getElem?_eq_getElem (by omega)]; rfl
        rw [hcell (off + j) (.int .u8 (xs.getD (off + j) 0)) (by rw [hc]; simp only [intsV, List.getElem?_map, hx, Option.map_some])]
        simp only [intsV, List.getElem?_map, List.getElem?_take, if_pos hj, List.getElem?_drop, hx, Option.map_some]
    | _ => exact absurd hsl id
  · cases hq
theorem zcg (hX : XOK P X) (h : SR X.glob F w0 M0 w M mu a.tmps st) {o : Oper} {d : D} (hq : quiet X st o = some d) : ∃ v, (execOp a.eval o).run P w = .ok (.value v) w ∧ Rep w M mu d v := by
  unfold quiet at hq
  split at hq
  · rename_i x hop
    cases hq
    exact ⟨_, by simp [execOp, hop], ev_rep h x⟩
  · rename_i c x y hop
    split at hq
    case h_2 => cases hq
    rename_i t hc
    cases hq
    have hcr := ev_rep h c
    rw [hc] at hcr
    simp only [Rep] at hcr
    refine ⟨if t then a.eval x else a.eval y, by simp [execOp, hop, hcr, asBool], ?_⟩
    unfold pickD
    have hx := ev_rep h x
    have hy := ev_rep h y
    split
    · rename_i p q hp hq
      rw [hp] at hx; rw [hq] at hy
      simp only [Rep] at hx hy ⊢
      cases t <;> simp [hx, hy]
    · cases t <;> simp [hx, hy]
  · rename_i t x hop
    split at hq
    case h_2 => cases hq
    rename_i i ht
    obtain ⟨u, h1, h2⟩ := zbv hX h ht (ev_rep h x) hq
    exact ⟨u, by simp [execOp, hop, h1], h2⟩
  · rename_i x hop
    have hx := ev_rep h x
    split at hq
    · rename_i r o' e
      cases hq
      rw [e] at hx
      refine ⟨a.eval x, ?_, hx⟩
      simp only [Rep] at hx
      obtain ⟨l, hl, hv⟩ := hx
      cases l with
      | nowhere => simp [Loc.cell] at hv
      | mapAt b => simp [Loc.cell] at hv
      | nest => simp [Loc.cell] at hv
      | at_ b base size => simp only [Loc.cell] at hv; simp [execOp, hop, hv]
    · rename_i cs e
      cases hq
      rw [e] at hx
      refine ⟨a.eval x, ?_, hx⟩
      simp only [Rep] at hx
      obtain ⟨ad, cv, hv, _⟩ := hx
      simp [execOp, hop, hv]
    · cases hq
  · rename_i op t x y _ hop
    unfold binC at hq
    split at hq
    · -- a comparison with nil
      split at hq
      case h_2 => cases hq
      rename_i e _ _ _ ht
      have hu : P.underlying t = some (.slice e) := (hX.tt _ _ ht).kind
      have hx := ev_rep h x
      have hcst : a.eval (.const (.slice none 0 0)) = .slice none 0 0 := rfl
      unfold nilD at hq
      split at hq
      · rename_i b hn
        cases hq
        obtain ⟨A, n, c, hv, rfl⟩ := zc7 hX hn hx
        have hg : (eqGuard .eql t x (.const (.slice none 0 0)) (.slice A n c) (.slice none 0 0)).run P w = .ok () w := by simp [eqGuard]
        have hrun : (binOp .eql t (.slice A n c) (.slice none 0 0)).run P w = .ok (.bool A.isNone) w := Go.Lib.run_eql_slice_nil w t e A n c 0 0 hu
        exact ⟨.bool A.isNone, by simp [execOp, hop, hv, hcst, hg, hrun], by simp only [Rep]⟩
      · rename_i b hn
        cases hq
        obtain ⟨A, n, c, hv, rfl⟩ := zc7 hX hn hx
        have hg : (eqGuard .neq t x (.const (.slice none 0 0)) (.slice A n c) (.slice none 0 0)).run P w = .ok () w := by simp [eqGuard]
        have hrun2 : (binOp .neq t (.slice A n c) (.slice none 0 0)).run P w = .ok (.bool (!A.isNone)) w := by
          simp only [binOp]
          simp [Op.equal, Op.maxDepth, Go.Lib.run_equalIn_slice_nil w 9999 t e A n c 0 0 hu]
        exact ⟨.bool (!A.isNone), by simp [execOp, hop, hv, hcst, hg, hrun2], by simp only [Rep]⟩
      · cases hq
    rename_i hnonil
    obtain ⟨r, h1, h2⟩ := zel hX (ev_rep h x) (ev_rep h y) hq
    refine ⟨r, ?_, h2⟩
    have hg : (eqGuard op t x y (a.eval x) (a.eval y)).run P w = .ok () w := by
      have hx := ev_rep h x
      have : (match a.eval x with | .int _ _ | .bool _ => true | _ => false) = true := by
        generalize ev X st x = dx at *
        generalize ev X st y = dy at *
        unfold binD at hq
        split at hq
        · simp only [Rep] at hx; rw [hx]
        · simp only [Rep] at hx; rw [hx]
        · cases hq
      exact zfs this
    simp [execOp, hop, hg, h1]
  · rename_i op t x hop
    obtain ⟨r, h1, h2⟩ := unD_run (P := P) (ev_rep h x) hq
    exact ⟨r, by simp [execOp, hop, h1], h2⟩
  · rename_i s dt x hop
    split at hq
    case h_3 => cases hq
    case h_2 =>
      rename_i si di dx hs hd hno
      have hxr := ev_rep h x
      obtain ⟨r, h1, h2⟩ := zfc hX h hs hd hxr hq
      exact ⟨r, by simp [execOp, hop, h1], h2⟩
    rename_i si di k n hs hd hx
    split at hq
    case h_2 => cases hq
    rename_i k1 k2 e1 e2
    cases hq
    have hxr := ev_rep h x
    rw [hx] at hxr
    simp only [Rep] at hxr
    have u1 := (hX.tt _ _ hs).kind
    have u2 := (hX.tt _ _ hd).kind
    rw [e1] at u1
    rw [e2] at u2
    exact ⟨.int k2 (k2.wrap n), by simp [execOp, hop, convert, run_underlying u1, run_underlying u2, hxr, Conv.intToInt], by simp only [Rep]⟩
  · rename_i f first captured hop
    split at hq
    case isFalse => cases hq
    rename_i h0
    cases hq
    have : first = #[] := by simpa using h0
    subst this
    refine ⟨.func (.func f) #[] (captured.map a.eval), by simp [execOp, hop, Instr.makeFunc], ?_⟩
    simp only [Rep]
    refine ⟨captured.toList.map a.eval, ?_, ev_repL h _⟩
    congr 1
    apply Array.ext'
    simp
  · rename_i t x lo hi mx hop
    split at hq
    case h_2 => cases hq
    rename_i i ht
    obtain ⟨r, h1, h2⟩ := zm7 hX h ht (ev_rep h x) hq
    exact ⟨r, by simp [execOp, hop, h1], h2⟩
  · rename_i t x f hop
    split at hq
    case h_2 => cases hq
    rename_i i ht
    obtain ⟨r, h1, h2⟩ := zfx hX ht (ev_rep h x) hq
    exact ⟨r, by simp [execOp, hop, h1], h2⟩
  · rename_i t x f hop
    split at hq
    case h_2 => cases hq
    rename_i i ht
    obtain ⟨r, h1, h2⟩ := zfy hX ht (ev_rep h x) hq
    exact ⟨r, by simp [execOp, hop, h1], h2⟩
  · rename_i t x ix hop
    split at hq
    case h_2 => cases hq
    rename_i i ht
    obtain ⟨r, h1, h2⟩ := zhz hX ht (ev_rep h x) (ev_rep h ix) hq
    exact ⟨r, by simp [execOp, hop, h1], h2⟩
  · rename_i t parts hop
    split at hq
    · rename_i fs _ _ zero ht
      split at hq
      case isFalse => cases hq
      rename_i hall
      obtain ⟨res, hb, rfl⟩ := Option.map_eq_some_iff.1 hq
      obtain ⟨r, h1, h2⟩ := zez hX h ht rfl hall hb
      exact ⟨r, by simp [execOp, hop, h1], h2⟩
    · rename_i n e _ _ zero ht
      split at hq
      case h_2 => cases hq
      rename_i ei he
      obtain ⟨res, hb, rfl⟩ := Option.map_eq_some_iff.1 hq
      obtain ⟨r, h1, h2⟩ := zex hX h ht rfl he hb
      exact ⟨r, by simp [execOp, hop, h1], h2⟩
    · cases hq
  · rename_i t ix hop
    split at hq
    case h_2 => cases hq
    rename_i vs hv
    have hr := ev_rep h t
    rw [hv] at hr
    simp only [Rep] at hr
    obtain ⟨cv, he, hr⟩ := hr
    obtain ⟨v, h1, h2⟩ := hr.get ix d hq
    exact ⟨v, by simp [execOp, hop, he, Instr.extract, h1], h2⟩
  · rename_i t x ix ok hop
    split at hq
    case h_2 => cases hq
    rename_i ke el _ _ _ ht
    obtain ⟨r, h1, h2⟩ := zjy hX h ht (ev_rep h x) (ev_rep h ix) hq
    exact ⟨r, by simp [execOp, hop, h1], h2⟩
  · rename_i args argTypes hop
    split at hq
    case h_2 => cases hq
    rename_i x t hargs hty
    split at hq
    case h_3 => cases hq
    case h_2 =>
      rename_i ke el _ _ _ ht
      have hu := (hX.tt _ _ ht).kind
      obtain rfl : args = #[x] := by cases args; simp_all
      obtain rfl : argTypes = #[t] := by cases argTypes; simp_all
      have hx := ev_rep h x
      generalize ev X st x = dx at *
      unfold mapLenD at hq
      split at hq
      case h_2 => cases hq
      rename_i r
      split at hq
      case h_2 => cases hq
      rename_i wr kk vk es hrow
      cases hq
      obtain ⟨b, arr, clock, e, hb, hm, _⟩ := map_at h hx hrow
      have hl : arr.size = es.length := by
        have := congrArg List.length hm
        simpa using this
      exact ⟨goInt es.length, by simp [execOp, hop, resolve, invoke, builtin, Builtin.len_, run_underlying hu, e, getObj, Sem.run, hb, hl], by simp only [Rep, goInt]⟩
    rename_i e _ _ _ ht
    have hu := (hX.tt _ _ ht).kind
    obtain rfl : args = #[x] := by cases args; simp_all
    obtain rfl : argTypes = #[t] := by cases argTypes; simp_all
    have hx := ev_rep h x
    have key : ∀ (A : Option Addr) (n c : Nat), a.eval x = .slice A n c → (execOp a.eval o).run P w = .ok (.value (goInt n)) w := by
      intro A n c e
      simp [execOp, hop, resolve, invoke, builtin, Builtin.len_, run_underlying hu, e]
    generalize ev X st x = dx at *
    unfold lenD at hq
    split at hq
    · cases hq
      simp only [Rep] at hx
      obtain ⟨l, hl, hs⟩ := hx
      cases l with
      | nowhere => obtain ⟨rfl, A, e⟩ := hs; exact ⟨_, key _ _ _ e, by simp only [Rep, goInt]⟩
      | mapAt b => exact absurd hs id
      | nest => exact absurd hs id
      | at_ b base size =>
        rcases hs with ⟨rfl, _, A, e⟩ | ⟨c, e, _⟩ <;> exact ⟨_, key _ _ _ e, by simp only [Rep, goInt]⟩
    · cases hq
      simp only [Rep] at hx
      obtain ⟨l, hl, hs⟩ := hx
      obtain ⟨A, c, e, _⟩ := Loc.outer_form hs
      exact ⟨_, key _ _ _ e, by simp only [Rep, goInt]⟩
    · cases hq
      simp only [Rep] at hx
      obtain ⟨l, hl, hs⟩ := hx
      obtain ⟨A, c, e, _⟩ := Loc.inner_form hs
      exact ⟨_, key _ _ _ e, by simp only [Rep, goInt]⟩
    · cases hq
      simp only [Rep] at hx
      obtain ⟨l, hl, hs⟩ := hx
      obtain ⟨A, c, e, _⟩ := Loc.recs_form hs
      exact ⟨_, key _ _ _ e, by simp only [Rep, goInt]⟩
    · cases hq
      simp only [Rep] at hx
      obtain ⟨A, e, _⟩ := hx
      exact ⟨_, key _ _ _ e, by simp [Rep, goInt]⟩
    · cases hq
      simp only [Rep] at hx
      obtain ⟨A, c, cv, e, _⟩ := hx
      exact ⟨_, key _ _ _ e, by simp only [Rep, goInt]⟩
    · obtain ⟨c, hc, rfl⟩ := Option.map_eq_some_iff.1 hq
      obtain ⟨cv, hcr, ⟨A, cap, e, _⟩, _⟩ := SlV.cont hX hx hc
      exact ⟨_, key _ _ _ e, by simp only [Rep, goInt, hcr.len]⟩
  · rename_i args argTypes hop
    split at hq
    case h_2 => cases hq
    rename_i x t hargs hty
    split at hq
    case h_2 => cases hq
    rename_i e _ _ _ ht
    have hu := (hX.tt _ _ ht).kind
    obtain rfl : args = #[x] := by cases args; simp_all
    obtain rfl : argTypes = #[t] := by cases argTypes; simp_all
    have hx := ev_rep h x
    generalize ev X st x = dx at *
    unfold capD at hq
    split at hq
    case h_2 => cases hq
    cases hq
    simp only [Rep] at hx
    obtain ⟨A, e, _⟩ := hx
    exact ⟨goInt 0, by simp [execOp, hop, resolve, invoke, builtin, Builtin.cap_, run_underlying hu, e], by simp [Rep, goInt]⟩
  · cases hq
end
end Go.PR

end
