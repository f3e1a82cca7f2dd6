/- Source sets: the reference's search over pairs. -/
import Derived.Test.YtkoednplncfgaaaDoorFwP19
import Derived.Test.YtkoednplncfgaaaDoorFwG14
set_option linter.unusedVariables false
set_option linter.unusedSimpArgs false
set_option maxRecDepth 20000
namespace Go.PR.S
open Go Go.PR Go.Proofs Gp
inductive SRch (d : List Int) (N : List (List Int)) (E q : Nat) : Nat × Nat → Prop where
  | base : SRch d N E q (q, 0)
  | next {t B a : Nat} : SRch d N E q (t, B) → a < (N.getD t []).length → (N.getD t []).getD a 0 ≥ 0 → (E.testBit a = true → B.testBit a = true) → SRch d N E q (((N.getD t []).getD a 0).toNat, B ||| (dm d a &&& E))
def CLs (d : List Int) (N : List (List Int)) (E : Nat) (L : List (Nat × Nat)) (p : Nat × Nat) : Prop := ∀ a, a < (N.getD p.1 []).length → (N.getD p.1 []).getD a 0 ≥ 0 → (E.testBit a = true → p.2.testBit a = true) → (((N.getD p.1 []).getD a 0).toNat, p.2 ||| (dm d a &&& E)) ∈ L
abbrev fstI (L : List (Nat × Nat)) : List Int := L.map fun p => (p.1 : Int)
abbrev sndI (L : List (Nat × Nat)) : List Int := L.map fun p => (p.2 : Int)
structure PI (d : List Int) (N : List (List Int)) (E q : Nat) (L : List (Nat × Nat)) : Prop where
  nd : L.Nodup
  bd : ∀ p ∈ L, p.1 < N.length ∧ p.2 < 2 ^ d.length
  rch : ∀ p ∈ L, SRch d N E q p
  hd : L.head? = some (q, 0)
section
variable {m n s f : Int} {d : List Int} {N : List (List Int)}
theorem PI.len {E q : Nat} (h : Ov m d n s f N) {L : List (Nat × Nat)} (hL : PI d N E q L) : L.length ≤ 4096 := by
  have h256 := two_le h
  have hl16 := h.l16
  have h1 : (L.map fun p => ((p.1 * 256 + p.2 : Nat) : Int)).Nodup := by
    unfold List.Nodup
    rw [List.pairwise_map]
    refine List.Pairwise.imp_of_mem (R := fun a b => a ≠ b) (fun {a b} ha hb hne e => hne ?_) hL.nd
    have h1 := (hL.bd a ha).2
    have h2 := (hL.bd b hb).2
    have e : a.1 * 256 + a.2 = b.1 * 256 + b.2 := by omega
    exact Prod.ext (by omega) (by omega)
  have h2 := z6b 4096 _ h1 fun x hx => by
    obtain ⟨p, hp, rfl⟩ := List.mem_map.1 hx
    obtain ⟨g1, g2⟩ := hL.bd p hp
    omega
  simpa using h2
end
end Go.PR.S
