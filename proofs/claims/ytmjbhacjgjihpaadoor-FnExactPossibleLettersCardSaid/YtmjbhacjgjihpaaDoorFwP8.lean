/- Numbers of maximal runs: the plain count, and both functions. -/
import Derived.Test.YtmjbhacjgjihpaaDoorFwP6
set_option linter.unusedVariables false
set_option linter.unusedSimpArgs false
set_option linter.unusedSectionVars false
section
set_option maxRecDepth 20000
namespace Go.PR.S
open Go Go.PR Go.Proofs Gp
def posN (N : List (List Int)) (s : Nat) : List Nat := (List.range (N.getD s []).length).filter fun a => decide ((N.getD s []).getD a 0 ≥ 0)
def cntF (N : List (List Int)) : Nat → Nat → Nat
  | 0, _ => 0
  | k + 1, s => if possM N s = 0 then 1 else ((posN N s).map fun a => cntF N k ((N.getD s []).getD a 0).toNat).sum
def cnt (N : List (List Int)) (s : Nat) : Nat := cntF N N.length s
def Con (N : List (List Int)) (es : List MEnt) : Prop := ∀ p ∈ es, p.2 = ((cnt N p.1.1.toNat : Nat) : Int)
theorem Con.get {N : List (List Int)} {es : List MEnt} {q : Int} (h : Con N es) (hs : (mget (.int .i64) es (q, 0)).isSome = true) : (mget (.int .i64) es (q, 0)).getD 0 = ((cnt N q.toNat : Nat) : Int) := by
  unfold mget at hs ⊢
  cases hm : mfind (.int .i64) (q, 0) es 0 with
  | none => rw [hm] at hs; cases hs
  | some p =>
    obtain ⟨i, v⟩ := p
    obtain ⟨n, _, hn, h1, h2⟩ := z8g hm
    have hk : q = es[n].1.1 := by simpa [MK.same] using h1
    have := h _ (List.getElem_mem hn)
    show v = _
    rw [h2, this, hk]
theorem Con.set {N : List (List Int)} {es : List MEnt} {q v : Int} (h : Con N es) (hv : v = ((cnt N q.toNat : Nat) : Int)) : Con N (mset (.int .i64) es (q, 0) v) := by
  unfold mset
  intro p hp
  split at hp
  · rcases List.mem_or_eq_of_mem_set hp with hp | rfl
    · exact h p hp
    · exact hv
  · rcases List.mem_append.1 hp with hp | hp
    · exact h p hp
    · rw [List.mem_singleton] at hp; subst hp; exact hv
def valsE (N : List (List Int)) (d : List Bool) : List Int := (List.range N.length).map fun t => if d.getD t false = true then ((cnt N t : Nat) : Int) else 0
def sumTo (N : List (List Int)) (d : List Bool) (s : Nat) : Nat → Int
  | 0 => 0
  | a + 1 => if (N.getD s []).getD a 0 ≥ 0 then sumTo N d s a + (valsE N d).getD ((N.getD s []).getD a 0).toNat 0 else sumTo N d s a
end Go.PR.S

end

section
set_option maxRecDepth 20000
namespace Go.PR.S
open Go Go.PR Go.Proofs Gp
end Go.PR.S

end
