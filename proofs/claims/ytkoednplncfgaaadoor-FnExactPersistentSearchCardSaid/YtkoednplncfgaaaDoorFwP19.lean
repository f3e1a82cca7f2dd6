/- Source sets: the program's search with its memo. -/
import Derived.Test.YtkoednplncfgaaaDoorFwP18
import Derived.Test.YtkoednplncfgaaaDoorFwG13
set_option linter.unusedVariables false
set_option linter.unusedSimpArgs false
set_option maxRecDepth 20000
namespace Go.PR.S
open Go Go.PR Go.Proofs Gp
inductive Esc (d : List Int) (N : List (List Int)) (E : Nat) : Nat → Nat → Prop where
  | dead {t B : Nat} : possM N t = 0 → Esc d N E t B
  | next {t B a : Nat} : a < (N.getD t []).length → (N.getD t []).getD a 0 ≥ 0 → (E.testBit a = true → B.testBit a = true) → Esc d N E ((N.getD t []).getD a 0).toNat (B ||| dm d a) → Esc d N E t B
theorem Esc.congr {d : List Int} {N : List (List Int)} {E t B : Nat} (h : Esc d N E t B) : ∀ {B' : Nat}, (∀ i, E.testBit i = true → B.testBit i = B'.testBit i) → Esc d N E t B' := by
  induction h with
  | dead hp => intro B' _; exact .dead hp
  | next ha h0 hE _ ih =>
    intro B' hB
    refine .next ha h0 (fun hh => by rw [← hB _ hh]; exact hE hh) (ih fun i hi => ?_)
    rw [Nat.testBit_or, Nat.testBit_or, hB i hi]
section
variable {m n s f : Int} {d : List Int} {N : List (List Int)}
def ConS (d : List Int) (N : List (List Int)) (E : Nat) (es : List MEnt) : Prop := ∀ p ∈ es, ∀ t B : Nat, p.1 = ((t : Int), (B : Int)) → ¬ Esc d N E t B
theorem ConS.get {E : Nat} {es : List MEnt} {t B : Nat} (h : ConS d N E es) (hs : ¬ (mget (.two .i64) es ((t : Int), (B : Int))).getD 0 = 0) : ¬ Esc d N E t B := by
  unfold mget at hs
  cases hm : mfind (.two .i64) ((t : Int), (B : Int)) es 0 with
  | none => rw [hm] at hs; exact absurd rfl hs
  | some p =>
    obtain ⟨i, v⟩ := p
    obtain ⟨k, _, hk, h1, _⟩ := z9d hm
    have hkey : es[k].1 = ((t : Int), (B : Int)) := by
      have : (t : Int) = es[k].1.1 ∧ (B : Int) = es[k].1.2 := by simpa [MK.same] using h1
      exact Prod.ext this.1.symm this.2.symm
    exact h _ (List.getElem_mem hk) t B hkey
theorem ConS.set {E : Nat} {es : List MEnt} {t B : Nat} {v : Int} (h : ConS d N E es) (hv : ¬ Esc d N E t B) : ConS d N E (mset (.two .i64) es ((t : Int), (B : Int)) v) := by
  have one : ∀ (t' B' : Nat), (((t : Int), (B : Int)) : Int × Int) = ((t' : Int), (B' : Int)) → ¬ Esc d N E t' B' := by
    intro t' B' e
    have e1 : t = t' := by have := congrArg Prod.fst e; simp only at this; omega
    have e2 : B = B' := by have := congrArg Prod.snd e; simp only at this; omega
    rw [← e1, ← e2]; exact hv
  unfold mset
  intro p hp t' B' e
  split at hp
  · rcases List.mem_or_eq_of_mem_set hp with hp | rfl
    · exact h p hp t' B' e
    · exact one t' B' e
  · rcases List.mem_append.1 hp with hp | hp
    · exact h p hp t' B' e
    · rw [List.mem_singleton] at hp; subst hp; exact one t' B' e
def goL (N : List (List Int)) (E q B : Nat) : List Nat := bitsN (nandn (possM N q) (nandn E B))
def Src (d : List Int) (N : List (List Int)) (E q : Nat) : Prop := nandn E (possM N q) = 0 ∧ (possM N q = 0 ∨ ¬ Esc d N E q 0)
end
end Go.PR.S
