/- Path lemmas (written by Vc.lean). -/
import Derived.Test.YtdheehhnpjkdbaaDoorFwMk
import Derived.Test.YtdheehhnpjkdbaaDoorFwP12
section
/- Path lemmas (written by Vc.lean). -/
set_option linter.unusedVariables false
set_option linter.unusedSimpArgs false
set_option maxRecDepth 20000
open Go Go.PR Go.Proofs Go.PR.S
namespace Go.PR.S
-- loop.example/g01094/laws.FnExactGroupInverse
-- loop.example/g01094/spec.GroupInverse
-- loop.example/g01094/impl.GroupInverse
theorem impl_GroupInverse_ft : X.ft F.impl_GroupInverse = some Tryd.f34 := by kernel_rfl
theorem impl_GroupInverse_p2_e (n : Int) (d w : List Int) (r1 : Int) (xs5 xs7 : List Int) (xs9 xs11 xs13 : List Int) (r14 : Int) : fnV X F.impl_GroupInverse Tryd.f34 [.agg [.int .i64 n, .immI .i64 d], .immI .i64 w] [] ⟨[true, false, true, true, true, true], [⟨.int .i64 r1, [], []⟩, ⟨.rsl 600000 0 xs5.length, [], [⟨true, .ints .i64 xs5⟩]⟩, ⟨.rsl 600000 0 xs7.length, [], [⟨true, .ints .i64 xs7⟩]⟩, ⟨.rsl 600000 0 xs9.length, [], [⟨true, .ints .i64 xs9⟩]⟩, ⟨.rsl 600000 0 xs11.length, [], [⟨true, .ints .i64 xs11⟩]⟩, ⟨.tup [.rsl 600000 0 xs13.length, .int .i64 r14], [], [⟨true, .ints .i64 xs13⟩]⟩], []⟩ = .ok (⟨.tup [.rsl 600000 0 xs13.length, .int .i64 r14], [], [⟨true, .ints .i64 xs13⟩]⟩) ⟨[], [], []⟩ ⟨[(1 : Nat) ≤ (1 : Nat), (0 : Nat) = (0 : Nat) ∧ (1 : Nat) = (1 : Nat), (r1 != (0 : Int)) = false, (0 : Nat) + xs7.length ≤ xs7.length, (0 : Nat) = (0 : Nat) ∧ xs7.length = xs7.length, (0 : Nat) + xs5.length ≤ xs5.length, (0 : Nat) = (0 : Nat) ∧ xs5.length = xs5.length, (0 : Nat) + xs9.length ≤ xs9.length, (0 : Nat) = (0 : Nat) ∧ xs9.length = xs9.length, (0 : Nat) + xs11.length ≤ xs11.length, (0 : Nat) = (0 : Nat) ∧ xs11.length = xs11.length], [⟨F.impl_checkSigned, [.agg [.int .i64 n, .immI .i64 d], .imm2 .i64 [w]], [], ⟨.int .i64 r1, [], []⟩⟩, ⟨F.impl_signedTies, [.agg [.int .i64 n, .immI .i64 d]], [], ⟨.rsl 600000 0 xs5.length, [], [⟨true, .ints .i64 xs5⟩]⟩⟩, ⟨F.impl_codesOf, [.immI .i64 w], [], ⟨.rsl 600000 0 xs7.length, [], [⟨true, .ints .i64 xs7⟩]⟩⟩, ⟨F.impl_inverted, [.immI .i64 xs7], [], ⟨.rsl 600000 0 xs9.length, [], [⟨true, .ints .i64 xs9⟩]⟩⟩, ⟨F.impl_ties_group, [.immI .i64 xs5, .immI .i64 xs9], [], ⟨.rsl 600000 0 xs11.length, [], [⟨true, .ints .i64 xs11⟩]⟩⟩, ⟨F.impl_element, [.immI .i64 xs11], [], ⟨.tup [.rsl 600000 0 xs13.length, .int .i64 r14], [], [⟨true, .ints .i64 xs13⟩]⟩⟩], []⟩ := by kernel_rfl
theorem impl_GroupInverse_p2 {n : Int} {d w : List Int} {r1 : Int} (c2 : Runs X F.impl_checkSigned [.agg [.int .i64 n, .immI .i64 d], .imm2 .i64 [w]] [] ⟨.int .i64 r1, [], []⟩) (h4 : r1 = 0) {xs5 : List Int} (c6 : Runs X F.impl_signedTies [.agg [.int .i64 n, .immI .i64 d]] [] ⟨.rsl 600000 0 xs5.length, [], [⟨true, .ints .i64 xs5⟩]⟩) {xs7 : List Int} (c8 : Runs X F.impl_codesOf [.immI .i64 w] [] ⟨.rsl 600000 0 xs7.length, [], [⟨true, .ints .i64 xs7⟩]⟩) {xs9 : List Int} (c10 : Runs X F.impl_inverted [.immI .i64 xs7] [] ⟨.rsl 600000 0 xs9.length, [], [⟨true, .ints .i64 xs9⟩]⟩) {xs11 : List Int} (c12 : Runs X F.impl_ties_group [.immI .i64 xs5, .immI .i64 xs9] [] ⟨.rsl 600000 0 xs11.length, [], [⟨true, .ints .i64 xs11⟩]⟩) {xs13 : List Int} {r14 : Int} (c15 : Runs X F.impl_element [.immI .i64 xs11] [] ⟨.tup [.rsl 600000 0 xs13.length, .int .i64 r14], [], [⟨true, .ints .i64 xs13⟩]⟩) : Runs X F.impl_GroupInverse [.agg [.int .i64 n, .immI .i64 d], .immI .i64 w] [] ⟨.tup [.rsl 600000 0 xs13.length, .int .i64 r14], [], [⟨true, .ints .i64 xs13⟩]⟩ :=
  Runs.path (by kernel_rfl) impl_GroupInverse_ft (impl_GroupInverse_p2_e n d w r1 xs5 xs7 xs9 xs11 xs13 r14) (AllP.c (by omega) (AllP.c ⟨(by omega), (by first | omega | (simp; done) | (simp only [List.length_take, List.length_drop, List.length_append, List.length_set] at *; omega))⟩ (AllP.c (bne_eq_false_iff_eq.2 h4) (AllP.c (by first | omega | (simp; done) | (simp only [List.length_take, List.length_drop, List.length_append, List.length_set] at *; omega)) (AllP.c ⟨(by first | omega | (simp; done) | (simp only [List.length_take, List.length_drop, List.length_append, List.length_set] at *; omega)), (by omega)⟩ (AllP.c (by first | omega | (simp; done) | (simp only [List.length_take, List.length_drop, List.length_append, List.length_set] at *; omega)) (AllP.c ⟨(by first | omega | (simp; done) | (simp only [List.length_take, List.length_drop, List.length_append, List.length_set] at *; omega)), (by omega)⟩ (AllP.c (by first | omega | (simp; done) | (simp only [List.length_take, List.length_drop, List.length_append, List.length_set] at *; omega)) (AllP.c ⟨(by first | omega | (simp; done) | (simp only [List.length_take, List.length_drop, List.length_append, List.length_set] at *; omega)), (by omega)⟩ (AllP.c (by first | omega | (simp; done) | (simp only [List.length_take, List.length_drop, List.length_append, List.length_set] at *; omega)) (AllP.c ⟨(by first | omega | (simp; done) | (simp only [List.length_take, List.length_drop, List.length_append, List.length_set] at *; omega)), (by omega)⟩ trivial))))))))))) (AllC.c c2 (AllC.c c6 (AllC.c c8 (AllC.c c10 (AllC.c c12 (AllC.c c15 trivial)))))) trivial
end Go.PR.S

end

section
/- The inverse in the group: the reference and the implementation answer alike; the law comes to true. -/
set_option linter.unusedVariables false
set_option linter.unusedSimpArgs false
set_option maxRecDepth 20000
namespace Go.PR.S
open Go Go.PR Go.Proofs Gp

end Go.PR.S

end
