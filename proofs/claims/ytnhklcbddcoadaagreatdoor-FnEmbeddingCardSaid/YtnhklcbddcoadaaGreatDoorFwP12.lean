/- Path lemmas (written by Vc.lean). -/
import Derived.Test.YtnhklcbddcoadaaGreatDoorFwMk
import Derived.Test.YtnhklcbddcoadaaGreatDoorFwP10
set_option linter.unusedVariables false
set_option linter.unusedSimpArgs false
set_option linter.unusedSectionVars false
section
set_option maxRecDepth 20000
open Go Go.PR Go.Proofs Go.PR.S
namespace Go.PR.S
end Go.PR.S

end

section
set_option maxRecDepth 20000
namespace Go.PR.S
open Go Go.PR Go.Proofs Gp
def marks (k : Int) (n : Nat) : List Int := (List.range n).map fun i : Nat => k + (i : Int)
abbrev passR (r : Int) (xs : List Int) : Ret := ⟨.int .i64 r, [some ⟨true, .ints .i64 xs⟩], []⟩
abbrev pairR (xs : List Int) (r : Int) : Ret := ⟨.tup [.rsl 600000 0 xs.length, .int .i64 r], [], [⟨true, .ints .i64 xs⟩]⟩
theorem zv1 {m : Nat} (hm : m ≤ 62) {w : List Int} (h : Wd m w) (hl : w.length ≤ B40) :
    Runs X F.z7f [lD w] [] (if w.length ≤ 24 then pairR (w.map sign) 0 else pairR [] 3) := by
  split
  · exact zpl (by omega) (zdr hm h hl)
  · exact zpk (by omega)
theorem sg_one {n : Int} {d w : List Int} (h : sgCode n d [w] = 0) : ∃ (N : Nat) (ha : Al N d), n = (N : Int) ∧ 2 * N ≤ 62 ∧ w.length ≤ 24 ∧ Bd w ∧ (∀ x ∈ w, x ≠ 0) ∧ Wd (2 * N) (w.map code) := by
  have hal : alOK n d = true := by
    unfold sgCode at h
    cases h1 : alOK n d with
    | true => rfl
    | false => rw [h1] at h; simp at h
  have hws : sgOK n w = true := by
    unfold sgCode at h
    rw [hal] at h
    cases h1 : sgOK n w with
    | true => rfl
    | false => simp [h1] at h
  obtain ⟨hn, ha⟩ := Al.of hal
  generalize hN : n.toNat = N at *
  subst hn
  have hN8 := ha.small
  obtain ⟨b1, b2, b3⟩ := sgOK_bd (by omega) hws
  exact ⟨N, ha, rfl, by omega, by simpa using b1, b2, fun x hx => (b3 x hx).1, code_Wd b3⟩
theorem gnf_Wd {N : Nat} {d : List Int} (h : Al N d) {w : List Int} (hw : Wd (2 * N) w) : Wd (2 * N) (gnf h w) := fun x hx => by
  unfold gnf at hx
  exact fold_Wd hw x (((z2b (fold_Wd hw)).mem x).1 hx)
end Go.PR.S

end
