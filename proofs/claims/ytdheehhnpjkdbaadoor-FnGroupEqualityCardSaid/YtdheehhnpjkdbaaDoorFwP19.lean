/- Path lemmas (written by Vc.lean). -/
import Derived.Test.YtdheehhnpjkdbaaDoorFwMk
import Derived.Test.YtdheehhnpjkdbaaDoorFwP12
section
/- Path lemmas (written by Vc.lean). -/
set_option linter.unusedVariables false
set_option linter.unusedSimpArgs false
set_option maxRecDepth 20000
open Go Go.PR Go.Proofs Go.PR.S
namespace Go.PR.S
-- loop.example/g01094/laws.FnExactGroupProduct
-- loop.example/g01094/spec.GroupProduct
-- loop.example/g01094/impl.GroupProduct
theorem impl_GroupProduct_ft : X.ft F.impl_GroupProduct = some Tryd.f30 := by kernel_rfl
theorem impl_GroupProduct_p2_e (n : Int) (d : List Int) (u : List Int) (v : List Int) (r1 : Int) (xs5 : List Int) (xs7 : List Int) (xs9 : List Int) (xs11 : List Int) (xs13 : List Int) (xs15 : List Int) (r16 : Int) : fnV X F.impl_GroupProduct Tryd.f30 [.agg [.int .i64 n, .immI .i64 d], .immI .i64 u, .immI .i64 v] [] ⟨[true, false, true, true, true, true, true, true], [⟨.int .i64 r1, [], []⟩, ⟨.rsl 600000 0 xs5.length, [], [⟨true, .ints .i64 xs5⟩]⟩, ⟨.rsl 600000 0 xs7.length, [], [⟨true, .ints .i64 xs7⟩]⟩, ⟨.rsl 600000 0 xs9.length, [], [⟨true, .ints .i64 xs9⟩]⟩, ⟨.rsl 600000 0 xs11.length, [], [⟨true, .ints .i64 xs11⟩]⟩, ⟨.rsl 600000 0 xs13.length, [], [⟨true, .ints .i64 xs13⟩]⟩, ⟨.tup [.rsl 600000 0 xs15.length, .int .i64 r16], [], [⟨true, .ints .i64 xs15⟩]⟩], []⟩ = .ok (⟨.tup [.rsl 600000 0 xs15.length, .int .i64 r16], [], [⟨true, .ints .i64 xs15⟩]⟩) ⟨[], [], []⟩ ⟨[2 ≤ ([u] ++ [v]).length, 0 = 0 ∧ 2 = ([u] ++ [v]).length, (r1 != 0) = false, 0 + xs7.length ≤ xs7.length, 0 = 0 ∧ xs7.length = xs7.length, 0 + xs9.length ≤ xs9.length, 0 = 0 ∧ xs9.length = xs9.length, 2 ≤ ([xs7] ++ [xs9]).length, 0 = 0 ∧ 2 = ([xs7] ++ [xs9]).length, 0 + xs5.length ≤ xs5.length, 0 = 0 ∧ xs5.length = xs5.length, 0 + xs11.length ≤ xs11.length, 0 = 0 ∧ xs11.length = xs11.length, 0 + xs13.length ≤ xs13.length, 0 = 0 ∧ xs13.length = xs13.length], [⟨F.impl_checkSigned, [.agg [.int .i64 n, .immI .i64 d], .imm2 .i64 ([u] ++ [v])], [], ⟨.int .i64 r1, [], []⟩⟩, ⟨F.impl_signedTies, [.agg [.int .i64 n, .immI .i64 d]], [], ⟨.rsl 600000 0 xs5.length, [], [⟨true, .ints .i64 xs5⟩]⟩⟩, ⟨F.impl_codesOf, [.immI .i64 u], [], ⟨.rsl 600000 0 xs7.length, [], [⟨true, .ints .i64 xs7⟩]⟩⟩, ⟨F.impl_codesOf, [.immI .i64 v], [], ⟨.rsl 600000 0 xs9.length, [], [⟨true, .ints .i64 xs9⟩]⟩⟩, ⟨F.slices_ConcatSint64int64, [.imm2 .i64 ([xs7] ++ [xs9])], [], ⟨.rsl 600000 0 xs11.length, [], [⟨true, .ints .i64 xs11⟩]⟩⟩, ⟨F.impl_ties_group, [.immI .i64 xs5, .immI .i64 xs11], [], ⟨.rsl 600000 0 xs13.length, [], [⟨true, .ints .i64 xs13⟩]⟩⟩, ⟨F.impl_element, [.immI .i64 xs13], [], ⟨.tup [.rsl 600000 0 xs15.length, .int .i64 r16], [], [⟨true, .ints .i64 xs15⟩]⟩⟩], []⟩ := by kernel_rfl
theorem impl_GroupProduct_p2 {n : Int} {d : List Int} {u : List Int} {v : List Int} {r1 : Int} (c2 : Runs X F.impl_checkSigned [.agg [.int .i64 n, .immI .i64 d], .imm2 .i64 ([u] ++ [v])] [] ⟨.int .i64 r1, [], []⟩) (h4 : r1 = 0) {xs5 : List Int} (c6 : Runs X F.impl_signedTies [.agg [.int .i64 n, .immI .i64 d]] [] ⟨.rsl 600000 0 xs5.length, [], [⟨true, .ints .i64 xs5⟩]⟩) {xs7 : List Int} (c8 : Runs X F.impl_codesOf [.immI .i64 u] [] ⟨.rsl 600000 0 xs7.length, [], [⟨true, .ints .i64 xs7⟩]⟩) {xs9 : List Int} (c10 : Runs X F.impl_codesOf [.immI .i64 v] [] ⟨.rsl 600000 0 xs9.length, [], [⟨true, .ints .i64 xs9⟩]⟩) {xs11 : List Int} (c12 : Runs X F.slices_ConcatSint64int64 [.imm2 .i64 ([xs7] ++ [xs9])] [] ⟨.rsl 600000 0 xs11.length, [], [⟨true, .ints .i64 xs11⟩]⟩) {xs13 : List Int} (c14 : Runs X F.impl_ties_group [.immI .i64 xs5, .immI .i64 xs11] [] ⟨.rsl 600000 0 xs13.length, [], [⟨true, .ints .i64 xs13⟩]⟩) {xs15 : List Int} {r16 : Int} (c17 : Runs X F.impl_element [.immI .i64 xs13] [] ⟨.tup [.rsl 600000 0 xs15.length, .int .i64 r16], [], [⟨true, .ints .i64 xs15⟩]⟩) : Runs X F.impl_GroupProduct [.agg [.int .i64 n, .immI .i64 d], .immI .i64 u, .immI .i64 v] [] ⟨.tup [.rsl 600000 0 xs15.length, .int .i64 r16], [], [⟨true, .ints .i64 xs15⟩]⟩ :=
  Runs.path (by kernel_rfl) impl_GroupProduct_ft (impl_GroupProduct_p2_e n d u v r1 xs5 xs7 xs9 xs11 xs13 xs15 r16) (AllP.c (by first | omega | (simp; done) | (simp only [List.length_take, List.length_drop, List.length_append, List.length_set] at *; omega)) (AllP.c ⟨(by omega), (by first | omega | (simp; done) | (simp only [List.length_take, List.length_drop, List.length_append, List.length_set] at *; omega))⟩ (AllP.c (bne_eq_false_iff_eq.2 h4) (AllP.c (by first | omega | (simp; done) | (simp only [List.length_take, List.length_drop, List.length_append, List.length_set] at *; omega)) (AllP.c ⟨(by first | omega | (simp; done) | (simp only [List.length_take, List.length_drop, List.length_append, List.length_set] at *; omega)), (by omega)⟩ (AllP.c (by first | omega | (simp; done) | (simp only [List.length_take, List.length_drop, List.length_append, List.length_set] at *; omega)) (AllP.c ⟨(by first | omega | (simp; done) | (simp only [List.length_take, List.length_drop, List.length_append, List.length_set] at *; omega)), (by omega)⟩ (AllP.c (by first | omega | (simp; done) | (simp only [List.length_take, List.length_drop, List.length_append, List.length_set] at *; omega)) (AllP.c ⟨(by omega), (by first | omega | (simp; done) | (simp only [List.length_take, List.length_drop, List.length_append, List.length_set] at *; omega))⟩ (AllP.c (by first | omega | (simp; done) | (simp only [List.length_take, List.length_drop, List.length_append, List.length_set] at *; omega)) (AllP.c ⟨(by first | omega | (simp; done) | (simp only [List.length_take, List.length_drop, List.length_append, List.length_set] at *; omega)), (by omega)⟩ (AllP.c (by first | omega | (simp; done) | (simp only [List.length_take, List.length_drop, List.length_append, List.length_set] at *; omega)) (AllP.c ⟨(by first | omega | (simp; done) | (simp only [List.length_take, List.length_drop, List.length_append, List.length_set] at *; omega)), (by omega)⟩ (AllP.c (by first | omega | (simp; done) | (simp only [List.length_take, List.length_drop, List.length_append, List.length_set] at *; omega)) (AllP.c ⟨(by first | omega | (simp; done) | (simp only [List.length_take, List.length_drop, List.length_append, List.length_set] at *; omega)), (by omega)⟩ trivial))))))))))))))) (AllC.c c2 (AllC.c c6 (AllC.c c8 (AllC.c c10 (AllC.c c12 (AllC.c c14 (AllC.c c17 trivial))))))) trivial
end Go.PR.S

end

section
/- Products in the group: the reference and the implementation answer alike; the law comes to true. -/
set_option linter.unusedVariables false
set_option linter.unusedSimpArgs false
set_option maxRecDepth 20000
namespace Go.PR.S
open Go Go.PR Go.Proofs Gp

theorem sg_two {n : Int} {d u v : List Int} (h : sgCode n d [u, v] = 0) : sgCode n d [u] = 0 ∧ sgCode n d [v] = 0 := by
  unfold sgCode at *
  cases h1 : alOK n d with
  | false => rw [h1] at h; simp at h
  | true =>
    rw [h1] at h
    cases h2 : sgOK n u with
    | false => simp [h2] at h
    | true =>
      cases h3 : sgOK n v with
      | false => simp [h2, h3] at h
      | true => simp [h2, h3]

end Go.PR.S

end
