/- Path lemmas (written by Vc.lean). -/
import Derived.Test.YtdheehhnpjkdbaaDoorFwMk
import Derived.Test.YtdheehhnpjkdbaaDoorFwP12
section
/- Path lemmas (written by Vc.lean). -/
set_option linter.unusedVariables false
set_option linter.unusedSimpArgs false
set_option maxRecDepth 20000
open Go Go.PR Go.Proofs Go.PR.S
namespace Go.PR.S
-- loop.example/g01094/laws.FnExactRetractOn
-- loop.example/g01094/spec.RetractOn
theorem spec_RetractOn_ft : X.ft F.spec_RetractOn = some Tryd.f31 := by kernel_rfl
theorem spec_RetractOn_p1_e (n : Int) (d : List Int) (w : List Int) (m : Int) (r1 : Int) (r4 : Int) (b6 : Bool) : fnV X F.spec_RetractOn Tryd.f31 [.agg [.int .i64 n, .immI .i64 d], .immI .i64 w, .int .i64 m] [] ⟨[true, true, true, true, true, true, true, true, true], [⟨.int .i64 r1, [], []⟩, ⟨.int .i64 r4, [], []⟩, ⟨.bool b6, [], []⟩], []⟩ = .ok (⟨.tup [.rsl 600000 0 (0 : Nat), .int .i64 2], [], [⟨true, .ints .i64 []⟩]⟩) ⟨[], [], []⟩ ⟨[(r1 == (0 : Int)) = true, (r1 == (0 : Int)) = true, (r1 == (0 : Int)) = true, (r1 == (0 : Int)) = true, (r1 == (0 : Int)) = true, (r1 == (0 : Int)) = true, (r1 == (0 : Int)) = true, (!b6) = true, ((2 : Int) != (0 : Int)) = true], [⟨F.spec_l09Code, [.agg [.int .i64 n, .immI .i64 d], .immI .i64 w, .immI .i64 w], [], ⟨.int .i64 r1, [], []⟩⟩, ⟨F.spec_l01Full, [.int .i64 n], [], ⟨.int .i64 r4, [], []⟩⟩, ⟨F.spec_l01In, [.int .i64 m, .int .i64 0, .int .i64 r4], [], ⟨.bool b6, [], []⟩⟩], []⟩ := by kernel_rfl
theorem spec_RetractOn_p1 {n : Int} {d : List Int} {w : List Int} {m : Int} {r1 : Int} (c2 : Runs X F.spec_l09Code [.agg [.int .i64 n, .immI .i64 d], .immI .i64 w, .immI .i64 w] [] ⟨.int .i64 r1, [], []⟩) (h3 : r1 = (0 : Int)) {r4 : Int} (c5 : Runs X F.spec_l01Full [.int .i64 n] [] ⟨.int .i64 r4, [], []⟩) {b6 : Bool} (c7 : Runs X F.spec_l01In [.int .i64 m, .int .i64 0, .int .i64 r4] [] ⟨.bool b6, [], []⟩) (h8 : b6 = false) : Runs X F.spec_RetractOn [.agg [.int .i64 n, .immI .i64 d], .immI .i64 w, .int .i64 m] [] ⟨.tup [.rsl 600000 0 (0 : Nat), .int .i64 2], [], [⟨true, .ints .i64 []⟩]⟩ :=
  Runs.path (by kernel_rfl) spec_RetractOn_ft (spec_RetractOn_p1_e n d w m r1 r4 b6) (AllP.c (beq_iff_eq.2 h3) (AllP.c (beq_iff_eq.2 h3) (AllP.c (beq_iff_eq.2 h3) (AllP.c (beq_iff_eq.2 h3) (AllP.c (beq_iff_eq.2 h3) (AllP.c (beq_iff_eq.2 h3) (AllP.c (beq_iff_eq.2 h3) (AllP.c (not_t h8) (AllP.c (bne_iff_ne.2 (by omega)) trivial))))))))) (AllC.c c2 (AllC.c c5 (AllC.c c7 trivial))) trivial
def spec_RetractOn_s0 (n : Int) (d : List Int) (m : Int) (xs10 : List Int) (t11a : Nat) (r9a : List Int) : LSt := ⟨mkE (57 : Nat) (0 : Nat) [((2 : Nat), .int .i64 m), ((3 : Nat), .ptr 1003 0), ((9 : Nat), .rsl 9 0 r9a.length), ((10 : Nat), .rsl 10 0 xs10.length), ((11 : Nat), .int .i64 (↑t11a : Int))], [((1003 : Nat), ⟨true, .var [.int .i64 n, .immI .i64 d]⟩), ((9 : Nat), ⟨true, .ints .i64 r9a⟩), ((10 : Nat), ⟨true, .ints .i64 xs10⟩)]⟩
def spec_RetractOn_o0_1 (n : Int) (d : List Int) (r9az : List Int) : OutL := .exit (0 : Nat) ⟨mkE (57 : Nat) (0 : Nat) [((3 : Nat), .ptr 1003 0), ((9 : Nat), .rsl 9 0 r9az.length)], [((1003 : Nat), ⟨true, .var [.int .i64 n, .immI .i64 d]⟩), ((9 : Nat), ⟨true, .ints .i64 r9az⟩)]⟩
theorem spec_RetractOn_r0_1_e (n : Int) (d : List Int) (m : Int) (xs10 : List Int) (t11a : Nat) (r9a : List Int) (b15 : Bool) : roundV X F.spec_RetractOn (0 : Nat) (lb Tryd.f31 (0 : Nat)) (spec_RetractOn_s0 n d m xs10 t11a r9a) ⟨[true, true, true, true, true], [⟨.bool b15, [], []⟩], []⟩ = .ok (.normal (spec_RetractOn_s0 n d m xs10 (t11a + (1 : Nat)) (r9a ++ [xs10.getD ((0 : Nat) + t11a) (0 : Int)]))) ⟨[], [], []⟩ ⟨[decide ((↑t11a : Int) < (↑xs10.length : Int)) = true, (0 : Int) ≤ (↑t11a : Int) ∧ (↑t11a : Int) < (↑xs10.length : Int), (0 : Nat) + t11a < xs10.length, (2 : Int) ≠ (0 : Int), inR ((xs10.getD ((0 : Nat) + t11a) (0 : Int)).tdiv (2 : Int)), b15 = true, (0 : Int) ≤ (↑t11a : Int) ∧ (↑t11a : Int) < (↑xs10.length : Int), (0 : Nat) + t11a < xs10.length, (1 : Nat) ≤ (1 : Nat), (0 : Nat) = (0 : Nat) ∧ (1 : Nat) = (1 : Nat), (0 : Nat) + r9a.length = r9a.length ∧ r9a.length + (1 : Nat) ≤ (1099511627776 : Nat), (0 : Nat) = (0 : Nat) ∧ r9a.length = r9a.length, inR ((↑t11a : Int) + (1 : Int))], [⟨F.spec_l01Bit, [.int .i64 m, .int .i64 ((xs10.getD ((0 : Nat) + t11a) (0 : Int)).tdiv (2 : Int))], [], ⟨.bool b15, [], []⟩⟩], []⟩ := by kernel_rfl
theorem spec_RetractOn_r0_1 {Q : Out → Prop} {n : Int} {d : List Int} {m : Int} {xs10 : List Int} {t11a : Nat} {r9a : List Int} (h12 : (↑t11a : Int) < (↑xs10.length : Int)) (h13 : (-9223372036854775808 : Int) ≤ (xs10.getD ((0 : Nat) + t11a) (0 : Int)).tdiv (2 : Int)) (h14 : (xs10.getD ((0 : Nat) + t11a) (0 : Int)).tdiv (2 : Int) ≤ (9223372036854775807 : Int)) {b15 : Bool} (c16 : Runs X F.spec_l01Bit [.int .i64 m, .int .i64 ((xs10.getD ((0 : Nat) + t11a) (0 : Int)).tdiv (2 : Int))] [] ⟨.bool b15, [], []⟩) (h17 : b15 = true) (h18 : r9a.length + (1 : Nat) ≤ (1099511627776 : Nat)) (h19 : (↑t11a : Int) + (1 : Int) ≤ (9223372036854775807 : Int)) (hq : WpL X F.spec_RetractOn 0 (lb Tryd.f31 (0 : Nat)) (spec_RetractOn_s0 n d m xs10 (t11a + (1 : Nat)) (r9a ++ [xs10.getD ((0 : Nat) + t11a) (0 : Int)])).st Q) : WpL X F.spec_RetractOn 0 (lb Tryd.f31 (0 : Nat)) (spec_RetractOn_s0 n d m xs10 t11a r9a).st Q :=
  roundV_path (spec_RetractOn_r0_1_e n d m xs10 t11a r9a b15) (AllP.c (decide_eq_true h12) (AllP.c ⟨(by omega), h12⟩ (AllP.c (by first | omega | (simp; done) | (simp only [List.length_take, List.length_drop, List.length_append, List.length_set] at *; omega)) (AllP.c (by omega) (AllP.c ⟨h13, h14⟩ (AllP.c h17 (AllP.c ⟨(by omega), h12⟩ (AllP.c (by first | omega | (simp; done) | (simp only [List.length_take, List.length_drop, List.length_append, List.length_set] at *; omega)) (AllP.c (by omega) (AllP.c ⟨(by omega), (by first | omega | (simp; done) | (simp only [List.length_take, List.length_drop, List.length_append, List.length_set] at *; omega))⟩ (AllP.c ⟨(by first | omega | (simp; done) | (simp only [List.length_take, List.length_drop, List.length_append, List.length_set] at *; omega)), h18⟩ (AllP.c ⟨(by first | omega | (simp; done) | (simp only [List.length_take, List.length_drop, List.length_append, List.length_set] at *; omega)), (by omega)⟩ (AllP.c ⟨(by omega), h19⟩ trivial))))))))))))) (AllC.c c16 trivial) trivial hq
theorem spec_RetractOn_r0_2_e (n : Int) (d : List Int) (m : Int) (xs10 : List Int) (t11a : Nat) (r9a : List Int) (b15 : Bool) : roundV X F.spec_RetractOn (0 : Nat) (lb Tryd.f31 (0 : Nat)) (spec_RetractOn_s0 n d m xs10 t11a r9a) ⟨[true, false], [⟨.bool b15, [], []⟩], []⟩ = .ok (.normal (spec_RetractOn_s0 n d m xs10 (t11a + (1 : Nat)) r9a)) ⟨[], [], []⟩ ⟨[decide ((↑t11a : Int) < (↑xs10.length : Int)) = true, (0 : Int) ≤ (↑t11a : Int) ∧ (↑t11a : Int) < (↑xs10.length : Int), (0 : Nat) + t11a < xs10.length, (2 : Int) ≠ (0 : Int), inR ((xs10.getD ((0 : Nat) + t11a) (0 : Int)).tdiv (2 : Int)), b15 = false, inR ((↑t11a : Int) + (1 : Int))], [⟨F.spec_l01Bit, [.int .i64 m, .int .i64 ((xs10.getD ((0 : Nat) + t11a) (0 : Int)).tdiv (2 : Int))], [], ⟨.bool b15, [], []⟩⟩], []⟩ := by kernel_rfl
theorem spec_RetractOn_r0_2 {Q : Out → Prop} {n : Int} {d : List Int} {m : Int} {xs10 : List Int} {t11a : Nat} {r9a : List Int} (h12 : (↑t11a : Int) < (↑xs10.length : Int)) (h13 : (-9223372036854775808 : Int) ≤ (xs10.getD ((0 : Nat) + t11a) (0 : Int)).tdiv (2 : Int)) (h14 : (xs10.getD ((0 : Nat) + t11a) (0 : Int)).tdiv (2 : Int) ≤ (9223372036854775807 : Int)) {b15 : Bool} (c16 : Runs X F.spec_l01Bit [.int .i64 m, .int .i64 ((xs10.getD ((0 : Nat) + t11a) (0 : Int)).tdiv (2 : Int))] [] ⟨.bool b15, [], []⟩) (h20 : b15 = false) (h21 : (↑t11a : Int) + (1 : Int) ≤ (9223372036854775807 : Int)) (hq : WpL X F.spec_RetractOn 0 (lb Tryd.f31 (0 : Nat)) (spec_RetractOn_s0 n d m xs10 (t11a + (1 : Nat)) r9a).st Q) : WpL X F.spec_RetractOn 0 (lb Tryd.f31 (0 : Nat)) (spec_RetractOn_s0 n d m xs10 t11a r9a).st Q :=
  roundV_path (spec_RetractOn_r0_2_e n d m xs10 t11a r9a b15) (AllP.c (decide_eq_true h12) (AllP.c ⟨(by omega), h12⟩ (AllP.c (by first | omega | (simp; done) | (simp only [List.length_take, List.length_drop, List.length_append, List.length_set] at *; omega)) (AllP.c (by omega) (AllP.c ⟨h13, h14⟩ (AllP.c h20 (AllP.c ⟨(by omega), h21⟩ trivial))))))) (AllC.c c16 trivial) trivial hq
theorem spec_RetractOn_r0_3_e (n : Int) (d : List Int) (m : Int) (xs10 : List Int) (t11a : Nat) (r9a : List Int) : roundV X F.spec_RetractOn (0 : Nat) (lb Tryd.f31 (0 : Nat)) (spec_RetractOn_s0 n d m xs10 t11a r9a) ⟨[false], [], []⟩ = .ok (spec_RetractOn_o0_1 n d r9a) ⟨[], [], []⟩ ⟨[decide ((↑t11a : Int) < (↑xs10.length : Int)) = false], [], []⟩ := by kernel_rfl
theorem spec_RetractOn_r0_3 {Q : Out → Prop} {n : Int} {d : List Int} {m : Int} {xs10 : List Int} {t11a : Nat} {r9a : List Int} (h22 : ¬(↑t11a : Int) < (↑xs10.length : Int)) (hq : Q (spec_RetractOn_o0_1 n d r9a).out) : WpL X F.spec_RetractOn 0 (lb Tryd.f31 (0 : Nat)) (spec_RetractOn_s0 n d m xs10 t11a r9a).st Q :=
  roundV_path (spec_RetractOn_r0_3_e n d m xs10 t11a r9a) (AllP.c (decide_eq_false h22) trivial) trivial trivial hq
theorem spec_RetractOn_p2_e (n : Int) (d : List Int) (w : List Int) (m : Int) (r1 : Int) (r4 : Int) (b6 : Bool) (xs10 : List Int) (r9az : List Int) (n24 : Int) (xs25 : List Int) (xs27 : List Int) (xs29 : List Int) : fnV X F.spec_RetractOn Tryd.f31 [.agg [.int .i64 n, .immI .i64 d], .immI .i64 w, .int .i64 m] [] ⟨[true, true, true, true, true, true, true, false, false, true, true, true], [⟨.int .i64 r1, [], []⟩, ⟨.int .i64 r4, [], []⟩, ⟨.bool b6, [], []⟩, ⟨.rsl 600000 0 xs10.length, [], [⟨true, .ints .i64 xs10⟩]⟩, ⟨.agg [.int .i64 n24, .rsl 600000 0 xs25.length], [], [⟨true, .ints .i64 xs25⟩]⟩, ⟨.rsl 600000 0 xs27.length, [], [⟨true, .ints .i64 xs27⟩]⟩, ⟨.rsl 600000 0 xs29.length, [], [⟨true, .ints .i64 xs29⟩]⟩], [spec_RetractOn_o0_1 n d r9az]⟩ = .ok (⟨.tup [.rsl 600000 0 xs29.length, .int .i64 0], [], [⟨true, .ints .i64 xs29⟩]⟩) ⟨[], [], []⟩ ⟨[(r1 == (0 : Int)) = true, (r1 == (0 : Int)) = true, (r1 == (0 : Int)) = true, (r1 == (0 : Int)) = true, (r1 == (0 : Int)) = true, (r1 == (0 : Int)) = true, (r1 == (0 : Int)) = true, (!b6) = false, (r1 != (0 : Int)) = false, (0 : Nat) + xs25.length ≤ xs25.length, (0 : Nat) = (0 : Nat) ∧ xs25.length = xs25.length, (0 : Nat) + r9az.length ≤ r9az.length, (0 : Nat) = (0 : Nat) ∧ r9az.length = r9az.length, (0 : Nat) + xs27.length ≤ xs27.length, (0 : Nat) = (0 : Nat) ∧ xs27.length = xs27.length], [⟨F.spec_l09Code, [.agg [.int .i64 n, .immI .i64 d], .immI .i64 w, .immI .i64 w], [], ⟨.int .i64 r1, [], []⟩⟩, ⟨F.spec_l01Full, [.int .i64 n], [], ⟨.int .i64 r4, [], []⟩⟩, ⟨F.spec_l01In, [.int .i64 m, .int .i64 0, .int .i64 r4], [], ⟨.bool b6, [], []⟩⟩, ⟨F.spec_l09In, [.immI .i64 w], [], ⟨.rsl 600000 0 xs10.length, [], [⟨true, .ints .i64 xs10⟩]⟩⟩, ⟨F.spec_l09Double, [.agg [.int .i64 n, .immI .i64 d]], [], ⟨.agg [.int .i64 n24, .rsl 600000 0 xs25.length], [], [⟨true, .ints .i64 xs25⟩]⟩⟩, ⟨F.spec_l09Reduce, [.agg [.int .i64 n24, .immI .i64 xs25], .immI .i64 r9az], [], ⟨.rsl 600000 0 xs27.length, [], [⟨true, .ints .i64 xs27⟩]⟩⟩, ⟨F.spec_l09Out, [.immI .i64 xs27], [], ⟨.rsl 600000 0 xs29.length, [], [⟨true, .ints .i64 xs29⟩]⟩⟩], [⟨(0 : Nat), lb Tryd.f31 (0 : Nat), spec_RetractOn_s0 n d m xs10 (0 : Nat) [], spec_RetractOn_o0_1 n d r9az⟩]⟩ := by kernel_rfl
theorem spec_RetractOn_p2 {n : Int} {d : List Int} {w : List Int} {m : Int} {r1 : Int} (c2 : Runs X F.spec_l09Code [.agg [.int .i64 n, .immI .i64 d], .immI .i64 w, .immI .i64 w] [] ⟨.int .i64 r1, [], []⟩) (h3 : r1 = (0 : Int)) {r4 : Int} (c5 : Runs X F.spec_l01Full [.int .i64 n] [] ⟨.int .i64 r4, [], []⟩) {b6 : Bool} (c7 : Runs X F.spec_l01In [.int .i64 m, .int .i64 0, .int .i64 r4] [] ⟨.bool b6, [], []⟩) (h9 : b6 = true) {xs10 : List Int} (c11 : Runs X F.spec_l09In [.immI .i64 w] [] ⟨.rsl 600000 0 xs10.length, [], [⟨true, .ints .i64 xs10⟩]⟩) {r9az : List Int} (l23 : WpL X F.spec_RetractOn (0 : Nat) (lb Tryd.f31 (0 : Nat)) (spec_RetractOn_s0 n d m xs10 (0 : Nat) []).st fun o => o = (spec_RetractOn_o0_1 n d r9az).out) {n24 : Int} {xs25 : List Int} (c26 : Runs X F.spec_l09Double [.agg [.int .i64 n, .immI .i64 d]] [] ⟨.agg [.int .i64 n24, .rsl 600000 0 xs25.length], [], [⟨true, .ints .i64 xs25⟩]⟩) {xs27 : List Int} (c28 : Runs X F.spec_l09Reduce [.agg [.int .i64 n24, .immI .i64 xs25], .immI .i64 r9az] [] ⟨.rsl 600000 0 xs27.length, [], [⟨true, .ints .i64 xs27⟩]⟩) {xs29 : List Int} (c30 : Runs X F.spec_l09Out [.immI .i64 xs27] [] ⟨.rsl 600000 0 xs29.length, [], [⟨true, .ints .i64 xs29⟩]⟩) : Runs X F.spec_RetractOn [.agg [.int .i64 n, .immI .i64 d], .immI .i64 w, .int .i64 m] [] ⟨.tup [.rsl 600000 0 xs29.length, .int .i64 0], [], [⟨true, .ints .i64 xs29⟩]⟩ :=
  Runs.path (by kernel_rfl) spec_RetractOn_ft (spec_RetractOn_p2_e n d w m r1 r4 b6 xs10 r9az n24 xs25 xs27 xs29) (AllP.c (beq_iff_eq.2 h3) (AllP.c (beq_iff_eq.2 h3) (AllP.c (beq_iff_eq.2 h3) (AllP.c (beq_iff_eq.2 h3) (AllP.c (beq_iff_eq.2 h3) (AllP.c (beq_iff_eq.2 h3) (AllP.c (beq_iff_eq.2 h3) (AllP.c (not_f h9) (AllP.c (bne_eq_false_iff_eq.2 h3) (AllP.c (by first | omega | (simp; done) | (simp only [List.length_take, List.length_drop, List.length_append, List.length_set] at *; omega)) (AllP.c ⟨(by first | omega | (simp; done) | (simp only [List.length_take, List.length_drop, List.length_append, List.length_set] at *; omega)), (by omega)⟩ (AllP.c (by first | omega | (simp; done) | (simp only [List.length_take, List.length_drop, List.length_append, List.length_set] at *; omega)) (AllP.c ⟨(by first | omega | (simp; done) | (simp only [List.length_take, List.length_drop, List.length_append, List.length_set] at *; omega)), (by omega)⟩ (AllP.c (by first | omega | (simp; done) | (simp only [List.length_take, List.length_drop, List.length_append, List.length_set] at *; omega)) (AllP.c ⟨(by first | omega | (simp; done) | (simp only [List.length_take, List.length_drop, List.length_append, List.length_set] at *; omega)), (by omega)⟩ trivial))))))))))))))) (AllC.c c2 (AllC.c c5 (AllC.c c7 (AllC.c c11 (AllC.c c26 (AllC.c c28 (AllC.c c30 trivial))))))) (AllL.c l23 trivial)
theorem spec_RetractOn_p3_e (n : Int) (d : List Int) (w : List Int) (m : Int) (r1 : Int) : fnV X F.spec_RetractOn Tryd.f31 [.agg [.int .i64 n, .immI .i64 d], .immI .i64 w, .int .i64 m] [] ⟨[false, false, false, false, false, false, false, false, true], [⟨.int .i64 r1, [], []⟩], []⟩ = .ok (⟨.tup [.rsl 600000 0 (0 : Nat), .int .i64 r1], [], [⟨true, .ints .i64 []⟩]⟩) ⟨[], [], []⟩ ⟨[(r1 == (0 : Int)) = false, (r1 == (0 : Int)) = false, (r1 == (0 : Int)) = false, (r1 == (0 : Int)) = false, (r1 == (0 : Int)) = false, (r1 == (0 : Int)) = false, (r1 == (0 : Int)) = false, false = false, (r1 != (0 : Int)) = true], [⟨F.spec_l09Code, [.agg [.int .i64 n, .immI .i64 d], .immI .i64 w, .immI .i64 w], [], ⟨.int .i64 r1, [], []⟩⟩], []⟩ := by kernel_rfl
theorem spec_RetractOn_p3 {n : Int} {d : List Int} {w : List Int} {m : Int} {r1 : Int} (c2 : Runs X F.spec_l09Code [.agg [.int .i64 n, .immI .i64 d], .immI .i64 w, .immI .i64 w] [] ⟨.int .i64 r1, [], []⟩) (h31 : ¬r1 = (0 : Int)) : Runs X F.spec_RetractOn [.agg [.int .i64 n, .immI .i64 d], .immI .i64 w, .int .i64 m] [] ⟨.tup [.rsl 600000 0 (0 : Nat), .int .i64 r1], [], [⟨true, .ints .i64 []⟩]⟩ :=
  Runs.path (by kernel_rfl) spec_RetractOn_ft (spec_RetractOn_p3_e n d w m r1) (AllP.c (beq_false_of_ne h31) (AllP.c (beq_false_of_ne h31) (AllP.c (beq_false_of_ne h31) (AllP.c (beq_false_of_ne h31) (AllP.c (beq_false_of_ne h31) (AllP.c (beq_false_of_ne h31) (AllP.c (beq_false_of_ne h31) (AllP.c (by first | omega | (simp; done) | (simp only [List.length_take, List.length_drop, List.length_append, List.length_set] at *; omega)) (AllP.c (bne_iff_ne.2 h31) trivial))))))))) (AllC.c c2 trivial) trivial
-- loop.example/g01094/impl.RetractOn
theorem impl_RetractOn_ft : X.ft F.impl_RetractOn = some Tryd.f32 := by kernel_rfl
theorem impl_RetractOn_p1_e (n : Int) (d : List Int) (w : List Int) (m : Int) (r1 : Int) : fnV X F.impl_RetractOn Tryd.f32 [.agg [.int .i64 n, .immI .i64 d], .immI .i64 w, .int .i64 m] [] ⟨[true, true], [⟨.int .i64 r1, [], []⟩], []⟩ = .ok (⟨.tup [.rsl 600000 0 (0 : Nat), .int .i64 r1], [], [⟨true, .ints .i64 []⟩]⟩) ⟨[], [], []⟩ ⟨[(1 : Nat) ≤ (1 : Nat), (0 : Nat) = (0 : Nat) ∧ (1 : Nat) = (1 : Nat), (r1 != (0 : Int)) = true], [⟨F.impl_checkSigned, [.agg [.int .i64 n, .immI .i64 d], .imm2 .i64 [w]], [], ⟨.int .i64 r1, [], []⟩⟩], []⟩ := by kernel_rfl
theorem impl_RetractOn_p1 {n : Int} {d : List Int} {w : List Int} {m : Int} {r1 : Int} (c2 : Runs X F.impl_checkSigned [.agg [.int .i64 n, .immI .i64 d], .imm2 .i64 [w]] [] ⟨.int .i64 r1, [], []⟩) (h3 : ¬r1 = (0 : Int)) : Runs X F.impl_RetractOn [.agg [.int .i64 n, .immI .i64 d], .immI .i64 w, .int .i64 m] [] ⟨.tup [.rsl 600000 0 (0 : Nat), .int .i64 r1], [], [⟨true, .ints .i64 []⟩]⟩ :=
  Runs.path (by kernel_rfl) impl_RetractOn_ft (impl_RetractOn_p1_e n d w m r1) (AllP.c (by omega) (AllP.c ⟨(by omega), (by first | omega | (simp; done) | (simp only [List.length_take, List.length_drop, List.length_append, List.length_set] at *; omega))⟩ (AllP.c (bne_iff_ne.2 h3) trivial))) (AllC.c c2 trivial) trivial
theorem impl_RetractOn_p2_e (n : Int) (d : List Int) (w : List Int) (m : Int) (r1 : Int) (b5 : Bool) : fnV X F.impl_RetractOn Tryd.f32 [.agg [.int .i64 n, .immI .i64 d], .immI .i64 w, .int .i64 m] [] ⟨[true, false, true], [⟨.int .i64 r1, [], []⟩, ⟨.bool b5, [], []⟩], []⟩ = .ok (⟨.tup [.rsl 600000 0 (0 : Nat), .int .i64 2], [], [⟨true, .ints .i64 []⟩]⟩) ⟨[], [], []⟩ ⟨[(1 : Nat) ≤ (1 : Nat), (0 : Nat) = (0 : Nat) ∧ (1 : Nat) = (1 : Nat), (r1 != (0 : Int)) = false, (!b5) = true], [⟨F.impl_checkSigned, [.agg [.int .i64 n, .immI .i64 d], .imm2 .i64 [w]], [], ⟨.int .i64 r1, [], []⟩⟩, ⟨F.impl_IsMask, [.int .i64 m, .int .i64 n], [], ⟨.bool b5, [], []⟩⟩], []⟩ := by kernel_rfl
theorem impl_RetractOn_p2 {n : Int} {d : List Int} {w : List Int} {m : Int} {r1 : Int} (c2 : Runs X F.impl_checkSigned [.agg [.int .i64 n, .immI .i64 d], .imm2 .i64 [w]] [] ⟨.int .i64 r1, [], []⟩) (h4 : r1 = (0 : Int)) {b5 : Bool} (c6 : Runs X F.impl_IsMask [.int .i64 m, .int .i64 n] [] ⟨.bool b5, [], []⟩) (h7 : b5 = false) : Runs X F.impl_RetractOn [.agg [.int .i64 n, .immI .i64 d], .immI .i64 w, .int .i64 m] [] ⟨.tup [.rsl 600000 0 (0 : Nat), .int .i64 2], [], [⟨true, .ints .i64 []⟩]⟩ :=
  Runs.path (by kernel_rfl) impl_RetractOn_ft (impl_RetractOn_p2_e n d w m r1 b5) (AllP.c (by omega) (AllP.c ⟨(by omega), (by first | omega | (simp; done) | (simp only [List.length_take, List.length_drop, List.length_append, List.length_set] at *; omega))⟩ (AllP.c (bne_eq_false_iff_eq.2 h4) (AllP.c (not_t h7) trivial)))) (AllC.c c2 (AllC.c c6 trivial)) trivial
def impl_RetractOn_s0 (n : Int) (d : List Int) (m : Int) (xs9 : List Int) (t28a : Nat) (r9a : List Int) : LSt := ⟨mkE (48 : Nat) (0 : Nat) [((2 : Nat), .int .i64 m), ((3 : Nat), .ptr 1003 0), ((9 : Nat), .rsl 9 0 r9a.length), ((26 : Nat), .rsl 1026 0 xs9.length), ((27 : Nat), .int .i64 (↑xs9.length : Int)), ((28 : Nat), .int .i64 (↑t28a : Int))], [((1003 : Nat), ⟨true, .var [.int .i64 n, .immI .i64 d]⟩), ((9 : Nat), ⟨true, .ints .i64 r9a⟩), ((1026 : Nat), ⟨true, .ints .i64 xs9⟩)]⟩
def impl_RetractOn_o0_1 (n : Int) (d : List Int) (r9az : List Int) : OutL := .exit (0 : Nat) ⟨mkE (48 : Nat) (0 : Nat) [((3 : Nat), .ptr 1003 0), ((9 : Nat), .rsl 9 0 r9az.length)], [((1003 : Nat), ⟨true, .var [.int .i64 n, .immI .i64 d]⟩), ((9 : Nat), ⟨true, .ints .i64 r9az⟩)]⟩
theorem impl_RetractOn_r0_1_e (n : Int) (d : List Int) (m : Int) (xs9 : List Int) (t28a : Nat) (r9a : List Int) (b14 : Bool) : roundV X F.impl_RetractOn (0 : Nat) (lb Tryd.f32 (0 : Nat)) (impl_RetractOn_s0 n d m xs9 t28a r9a) ⟨[true, true, true, true, true], [⟨.bool b14, [], []⟩], []⟩ = .ok (.normal (impl_RetractOn_s0 n d m xs9 (t28a + (1 : Nat)) (r9a ++ [xs9.getD ((0 : Nat) + t28a) (0 : Int)]))) ⟨[], [], []⟩ ⟨[decide ((↑t28a : Int) < (↑xs9.length : Int)) = true, (0 : Int) ≤ (↑t28a : Int) ∧ (↑t28a : Int) < (↑xs9.length : Int), (0 : Nat) + t28a < xs9.length, (2 : Int) ≠ (0 : Int), inR ((xs9.getD ((0 : Nat) + t28a) (0 : Int)).tdiv (2 : Int)), b14 = true, (1 : Nat) ≤ (1 : Nat), (0 : Nat) = (0 : Nat) ∧ (1 : Nat) = (1 : Nat), (0 : Nat) + r9a.length = r9a.length ∧ r9a.length + (1 : Nat) ≤ (1099511627776 : Nat), (0 : Nat) = (0 : Nat) ∧ r9a.length = r9a.length, inR ((↑t28a : Int) + (1 : Int))], [⟨F.impl_has, [.int .i64 m, .int .i64 ((xs9.getD ((0 : Nat) + t28a) (0 : Int)).tdiv (2 : Int))], [], ⟨.bool b14, [], []⟩⟩], []⟩ := by kernel_rfl
theorem impl_RetractOn_r0_1 {Q : Out → Prop} {n : Int} {d : List Int} {m : Int} {xs9 : List Int} {t28a : Nat} {r9a : List Int} (h11 : (↑t28a : Int) < (↑xs9.length : Int)) (h12 : (-9223372036854775808 : Int) ≤ (xs9.getD ((0 : Nat) + t28a) (0 : Int)).tdiv (2 : Int)) (h13 : (xs9.getD ((0 : Nat) + t28a) (0 : Int)).tdiv (2 : Int) ≤ (9223372036854775807 : Int)) {b14 : Bool} (c15 : Runs X F.impl_has [.int .i64 m, .int .i64 ((xs9.getD ((0 : Nat) + t28a) (0 : Int)).tdiv (2 : Int))] [] ⟨.bool b14, [], []⟩) (h16 : b14 = true) (h17 : r9a.length + (1 : Nat) ≤ (1099511627776 : Nat)) (h18 : (↑t28a : Int) + (1 : Int) ≤ (9223372036854775807 : Int)) (hq : WpL X F.impl_RetractOn 0 (lb Tryd.f32 (0 : Nat)) (impl_RetractOn_s0 n d m xs9 (t28a + (1 : Nat)) (r9a ++ [xs9.getD ((0 : Nat) + t28a) (0 : Int)])).st Q) : WpL X F.impl_RetractOn 0 (lb Tryd.f32 (0 : Nat)) (impl_RetractOn_s0 n d m xs9 t28a r9a).st Q :=
  roundV_path (impl_RetractOn_r0_1_e n d m xs9 t28a r9a b14) (AllP.c (decide_eq_true h11) (AllP.c ⟨(by omega), h11⟩ (AllP.c (by first | omega | (simp; done) | (simp only [List.length_take, List.length_drop, List.length_append, List.length_set] at *; omega)) (AllP.c (by omega) (AllP.c ⟨h12, h13⟩ (AllP.c h16 (AllP.c (by omega) (AllP.c ⟨(by omega), (by first | omega | (simp; done) | (simp only [List.length_take, List.length_drop, List.length_append, List.length_set] at *; omega))⟩ (AllP.c ⟨(by first | omega | (simp; done) | (simp only [List.length_take, List.length_drop, List.length_append, List.length_set] at *; omega)), h17⟩ (AllP.c ⟨(by first | omega | (simp; done) | (simp only [List.length_take, List.length_drop, List.length_append, List.length_set] at *; omega)), (by omega)⟩ (AllP.c ⟨(by omega), h18⟩ trivial))))))))))) (AllC.c c15 trivial) trivial hq
theorem impl_RetractOn_r0_2_e (n : Int) (d : List Int) (m : Int) (xs9 : List Int) (t28a : Nat) (r9a : List Int) (b14 : Bool) : roundV X F.impl_RetractOn (0 : Nat) (lb Tryd.f32 (0 : Nat)) (impl_RetractOn_s0 n d m xs9 t28a r9a) ⟨[true, false], [⟨.bool b14, [], []⟩], []⟩ = .ok (.normal (impl_RetractOn_s0 n d m xs9 (t28a + (1 : Nat)) r9a)) ⟨[], [], []⟩ ⟨[decide ((↑t28a : Int) < (↑xs9.length : Int)) = true, (0 : Int) ≤ (↑t28a : Int) ∧ (↑t28a : Int) < (↑xs9.length : Int), (0 : Nat) + t28a < xs9.length, (2 : Int) ≠ (0 : Int), inR ((xs9.getD ((0 : Nat) + t28a) (0 : Int)).tdiv (2 : Int)), b14 = false, inR ((↑t28a : Int) + (1 : Int))], [⟨F.impl_has, [.int .i64 m, .int .i64 ((xs9.getD ((0 : Nat) + t28a) (0 : Int)).tdiv (2 : Int))], [], ⟨.bool b14, [], []⟩⟩], []⟩ := by kernel_rfl
theorem impl_RetractOn_r0_2 {Q : Out → Prop} {n : Int} {d : List Int} {m : Int} {xs9 : List Int} {t28a : Nat} {r9a : List Int} (h11 : (↑t28a : Int) < (↑xs9.length : Int)) (h12 : (-9223372036854775808 : Int) ≤ (xs9.getD ((0 : Nat) + t28a) (0 : Int)).tdiv (2 : Int)) (h13 : (xs9.getD ((0 : Nat) + t28a) (0 : Int)).tdiv (2 : Int) ≤ (9223372036854775807 : Int)) {b14 : Bool} (c15 : Runs X F.impl_has [.int .i64 m, .int .i64 ((xs9.getD ((0 : Nat) + t28a) (0 : Int)).tdiv (2 : Int))] [] ⟨.bool b14, [], []⟩) (h19 : b14 = false) (h20 : (↑t28a : Int) + (1 : Int) ≤ (9223372036854775807 : Int)) (hq : WpL X F.impl_RetractOn 0 (lb Tryd.f32 (0 : Nat)) (impl_RetractOn_s0 n d m xs9 (t28a + (1 : Nat)) r9a).st Q) : WpL X F.impl_RetractOn 0 (lb Tryd.f32 (0 : Nat)) (impl_RetractOn_s0 n d m xs9 t28a r9a).st Q :=
  roundV_path (impl_RetractOn_r0_2_e n d m xs9 t28a r9a b14) (AllP.c (decide_eq_true h11) (AllP.c ⟨(by omega), h11⟩ (AllP.c (by first | omega | (simp; done) | (simp only [List.length_take, List.length_drop, List.length_append, List.length_set] at *; omega)) (AllP.c (by omega) (AllP.c ⟨h12, h13⟩ (AllP.c h19 (AllP.c ⟨(by omega), h20⟩ trivial))))))) (AllC.c c15 trivial) trivial hq
theorem impl_RetractOn_r0_3_e (n : Int) (d : List Int) (m : Int) (xs9 : List Int) (t28a : Nat) (r9a : List Int) : roundV X F.impl_RetractOn (0 : Nat) (lb Tryd.f32 (0 : Nat)) (impl_RetractOn_s0 n d m xs9 t28a r9a) ⟨[false], [], []⟩ = .ok (impl_RetractOn_o0_1 n d r9a) ⟨[], [], []⟩ ⟨[decide ((↑t28a : Int) < (↑xs9.length : Int)) = false], [], []⟩ := by kernel_rfl
theorem impl_RetractOn_r0_3 {Q : Out → Prop} {n : Int} {d : List Int} {m : Int} {xs9 : List Int} {t28a : Nat} {r9a : List Int} (h21 : ¬(↑t28a : Int) < (↑xs9.length : Int)) (hq : Q (impl_RetractOn_o0_1 n d r9a).out) : WpL X F.impl_RetractOn 0 (lb Tryd.f32 (0 : Nat)) (impl_RetractOn_s0 n d m xs9 t28a r9a).st Q :=
  roundV_path (impl_RetractOn_r0_3_e n d m xs9 t28a r9a) (AllP.c (decide_eq_false h21) trivial) trivial trivial hq
theorem impl_RetractOn_p3_e (n : Int) (d : List Int) (w : List Int) (m : Int) (r1 : Int) (b5 : Bool) (xs9 : List Int) (r9az : List Int) (xs23 : List Int) (xs25 : List Int) (xs27 : List Int) (r28 : Int) : fnV X F.impl_RetractOn Tryd.f32 [.agg [.int .i64 n, .immI .i64 d], .immI .i64 w, .int .i64 m] [] ⟨[true, false, false, true, true, true], [⟨.int .i64 r1, [], []⟩, ⟨.bool b5, [], []⟩, ⟨.rsl 600000 0 xs9.length, [], [⟨true, .ints .i64 xs9⟩]⟩, ⟨.rsl 600000 0 xs23.length, [], [⟨true, .ints .i64 xs23⟩]⟩, ⟨.rsl 600000 0 xs25.length, [], [⟨true, .ints .i64 xs25⟩]⟩, ⟨.tup [.rsl 600000 0 xs27.length, .int .i64 r28], [], [⟨true, .ints .i64 xs27⟩]⟩], [impl_RetractOn_o0_1 n d r9az]⟩ = .ok (⟨.tup [.rsl 600000 0 xs27.length, .int .i64 r28], [], [⟨true, .ints .i64 xs27⟩]⟩) ⟨[], [], []⟩ ⟨[(1 : Nat) ≤ (1 : Nat), (0 : Nat) = (0 : Nat) ∧ (1 : Nat) = (1 : Nat), (r1 != (0 : Int)) = false, (!b5) = false, (0 : Nat) + xs23.length ≤ xs23.length, (0 : Nat) = (0 : Nat) ∧ xs23.length = xs23.length, (0 : Nat) + r9az.length ≤ r9az.length, (0 : Nat) = (0 : Nat) ∧ r9az.length = r9az.length, (0 : Nat) + xs25.length ≤ xs25.length, (0 : Nat) = (0 : Nat) ∧ xs25.length = xs25.length], [⟨F.impl_checkSigned, [.agg [.int .i64 n, .immI .i64 d], .imm2 .i64 [w]], [], ⟨.int .i64 r1, [], []⟩⟩, ⟨F.impl_IsMask, [.int .i64 m, .int .i64 n], [], ⟨.bool b5, [], []⟩⟩, ⟨F.impl_codesOf, [.immI .i64 w], [], ⟨.rsl 600000 0 xs9.length, [], [⟨true, .ints .i64 xs9⟩]⟩⟩, ⟨F.impl_signedTies, [.agg [.int .i64 n, .immI .i64 d]], [], ⟨.rsl 600000 0 xs23.length, [], [⟨true, .ints .i64 xs23⟩]⟩⟩, ⟨F.impl_ties_group, [.immI .i64 xs23, .immI .i64 r9az], [], ⟨.rsl 600000 0 xs25.length, [], [⟨true, .ints .i64 xs25⟩]⟩⟩, ⟨F.impl_element, [.immI .i64 xs25], [], ⟨.tup [.rsl 600000 0 xs27.length, .int .i64 r28], [], [⟨true, .ints .i64 xs27⟩]⟩⟩], [⟨(0 : Nat), lb Tryd.f32 (0 : Nat), impl_RetractOn_s0 n d m xs9 (0 : Nat) [], impl_RetractOn_o0_1 n d r9az⟩]⟩ := by kernel_rfl
theorem impl_RetractOn_p3 {n : Int} {d : List Int} {w : List Int} {m : Int} {r1 : Int} (c2 : Runs X F.impl_checkSigned [.agg [.int .i64 n, .immI .i64 d], .imm2 .i64 [w]] [] ⟨.int .i64 r1, [], []⟩) (h4 : r1 = (0 : Int)) {b5 : Bool} (c6 : Runs X F.impl_IsMask [.int .i64 m, .int .i64 n] [] ⟨.bool b5, [], []⟩) (h8 : b5 = true) {xs9 : List Int} (c10 : Runs X F.impl_codesOf [.immI .i64 w] [] ⟨.rsl 600000 0 xs9.length, [], [⟨true, .ints .i64 xs9⟩]⟩) {r9az : List Int} (l22 : WpL X F.impl_RetractOn (0 : Nat) (lb Tryd.f32 (0 : Nat)) (impl_RetractOn_s0 n d m xs9 (0 : Nat) []).st fun o => o = (impl_RetractOn_o0_1 n d r9az).out) {xs23 : List Int} (c24 : Runs X F.impl_signedTies [.agg [.int .i64 n, .immI .i64 d]] [] ⟨.rsl 600000 0 xs23.length, [], [⟨true, .ints .i64 xs23⟩]⟩) {xs25 : List Int} (c26 : Runs X F.impl_ties_group [.immI .i64 xs23, .immI .i64 r9az] [] ⟨.rsl 600000 0 xs25.length, [], [⟨true, .ints .i64 xs25⟩]⟩) {xs27 : List Int} {r28 : Int} (c29 : Runs X F.impl_element [.immI .i64 xs25] [] ⟨.tup [.rsl 600000 0 xs27.length, .int .i64 r28], [], [⟨true, .ints .i64 xs27⟩]⟩) : Runs X F.impl_RetractOn [.agg [.int .i64 n, .immI .i64 d], .immI .i64 w, .int .i64 m] [] ⟨.tup [.rsl 600000 0 xs27.length, .int .i64 r28], [], [⟨true, .ints .i64 xs27⟩]⟩ :=
  Runs.path (by kernel_rfl) impl_RetractOn_ft (impl_RetractOn_p3_e n d w m r1 b5 xs9 r9az xs23 xs25 xs27 r28) (AllP.c (by omega) (AllP.c ⟨(by omega), (by first | omega | (simp; done) | (simp only [List.length_take, List.length_drop, List.length_append, List.length_set] at *; omega))⟩ (AllP.c (bne_eq_false_iff_eq.2 h4) (AllP.c (not_f h8) (AllP.c (by first | omega | (simp; done) | (simp only [List.length_take, List.length_drop, List.length_append, List.length_set] at *; omega)) (AllP.c ⟨(by first | omega | (simp; done) | (simp only [List.length_take, List.length_drop, List.length_append, List.length_set] at *; omega)), (by omega)⟩ (AllP.c (by first | omega | (simp; done) | (simp only [List.length_take, List.length_drop, List.length_append, List.length_set] at *; omega)) (AllP.c ⟨(by first | omega | (simp; done) | (simp only [List.length_take, List.length_drop, List.length_append, List.length_set] at *; omega)), (by omega)⟩ (AllP.c (by first | omega | (simp; done) | (simp only [List.length_take, List.length_drop, List.length_append, List.length_set] at *; omega)) (AllP.c ⟨(by first | omega | (simp; done) | (simp only [List.length_take, List.length_drop, List.length_append, List.length_set] at *; omega)), (by omega)⟩ trivial)))))))))) (AllC.c c2 (AllC.c c6 (AllC.c c10 (AllC.c c24 (AllC.c c26 (AllC.c c29 trivial)))))) (AllL.c l22 trivial)
end Go.PR.S

end

section
/- Retracts of words: the reference and the implementation answer alike; the law comes to true. -/
set_option linter.unusedVariables false
set_option linter.unusedSimpArgs false
set_option maxRecDepth 20000
namespace Go.PR.S
open Go Go.PR Go.Proofs Gp

def keepC (m : Int) (x : Int) : Bool := tb m (x.tdiv 2)

theorem filter_step {q : Int → Bool} {v : List Int} {i : Nat} (hi : i < v.length) : (v.take (i + 1)).filter q = (v.take i).filter q ++ if q (v.getD i 0) = true then [v.getD i 0] else [] := by
  rw [List.take_succ_eq_append_getElem hi, List.filter_append, getD_lt hi]
  congr 1
  rw [List.filter_cons, List.filter_nil]

theorem run_IsMask {N : Nat} (hN : N ≤ 24) (m : Int) : Runs X F.impl_IsMask [iD m, iD N] [] (boolR (decide (0 ≤ m ∧ m ≤ ((2 ^ N : Nat) : Int) - 1))) := by
  have c1 := run_inRange (N : Int) 0 24
  rw [decide_eq_true (by omega)] at c1
  have h2 := pow62 (i := N) (by omega)
  have h3 : ((2 ^ N : Nat) : Int) < ((2 ^ 63 : Nat) : Int) := Int.ofNat_lt.2 h2
  have h4 : (0 : Int) ≤ ((2 ^ N : Nat) : Int) := Int.natCast_nonneg _
  exact impl_IsMask_p1 c1 rfl (run_one (by omega)) (by omega) (by omega) (run_inRange m 0 _)

theorem half_nat {x : Int} (h : 0 ≤ x) : x.tdiv 2 = ((x.toNat / 2 : Nat) : Int) := by
  obtain ⟨k, rfl⟩ := Int.eq_ofNat_of_zero_le h
  rw [Int.tdiv_eq_ediv_of_nonneg (by omega)]
  simp

theorem run_keep {M : Nat} (hM : M < 2 ^ 63) {x : Int} (h0 : 0 ≤ x) (h1 : x < 62) :
    Runs X F.spec_l01Bit [iD M, iD (x.tdiv 2)] [] (boolR (keepC M x)) ∧ Runs X F.impl_has [iD M, iD (x.tdiv 2)] [] (boolR (keepC M x)) := by
  unfold keepC
  rw [half_nat h0]
  exact ⟨run_l01Bit hM (by omega), run_has hM⟩

theorem run_RetractOn (n : Int) (d w : List Int) (m : Int) (hd : d.length ≤ B40) (hw : w.length ≤ B40) :
    ∃ xs r, xs.length ≤ B40 ∧ Runs X F.spec_RetractOn [alD n d, lD w, iD m] [] (pairR xs r) ∧ Runs X F.impl_RetractOn [alD n d, lD w, iD m] [] (pairR xs r) := by
  have c1 := run_l09Code n d w w hd hw hw
  rw [sg_twice] at c1
  have c2 : Runs X F.impl_checkSigned [alD n d, .imm2 .i64 [w]] [] (intR (sgCode n d [w])) := run_checkSigned n d [w] hd (by simp [B40]) (by simp [hw])
  by_cases h0 : sgCode n d [w] = 0
  · obtain ⟨N, ha, rfl, hN, hl, hb, hz, hW⟩ := sg_one h0
    have hN8 := ha.small
    have c3 := run_IsMask (N := N) (by omega) m
    have c4 := run_l01Full (i := N) (by omega)
    have c5 := run_l01In m 0 (((2 ^ N : Nat) : Int) - 1)
    by_cases hm : 0 ≤ m ∧ m ≤ ((2 ^ N : Nat) : Int) - 1
    · rw [decide_eq_true hm] at c3 c5
      obtain ⟨M, rfl⟩ := Int.eq_ofNat_of_zero_le hm.1
      have h2 := pow62 (i := N) (by omega)
      have hM : M < 2 ^ 63 := by omega
      have k2 := run_l09In hb hz hw
      have k6 := run_codesOf hb hw
      have hc : (w.map code).length ≤ 24 := by simpa using hl
      generalize hG : w.map code = G at *
      have gx : ∀ i, i < G.length → 0 ≤ G.getD i 0 ∧ G.getD i 0 < 62 := fun i hi => by
        rw [getD_lt hi]
        have := hW _ (List.getElem_mem hi)
        omega
      have hW2 : Wd (2 * N) (G.filter (keepC M)) := fun x hx => hW x (List.mem_filter.1 hx).1
      have hfl := List.length_filter_le (keepC (M : Int)) G
      have hg := gnf_le ha hW2
      have hti : ∀ i, ((G.take i).filter (keepC M)).length ≤ 24 := fun i => by
        have := List.length_filter_le (keepC (M : Int)) (G.take i)
        rw [List.length_take] at this
        omega
      have l1 := loop_to (f := F.spec_RetractOn) (b := 0) (body := lb Tryd.f31 0) (N := G.length) (o := spec_RetractOn_o0_1 N d (G.filter (keepC M))) (st := fun i => spec_RetractOn_s0 N d M G i ((G.take i).filter (keepC M))) (fun i hi Q hq => ?_) (fun Q hq => ?_)
      · have l2 := loop_to (f := F.impl_RetractOn) (b := 0) (body := lb Tryd.f32 0) (N := G.length) (o := impl_RetractOn_o0_1 N d (G.filter (keepC M))) (st := fun i => impl_RetractOn_s0 N d M G i ((G.take i).filter (keepC M))) (fun i hi Q hq => ?_) (fun Q hq => ?_)
        · have k1 := run_l09Double ha
          have k3 := run_l09Reduce ha hW2 (by unfold B40; omega)
          have gW := gnf_Wd ha hW2
          have k4 := run_l09Out hN gW (by unfold B40; omega)
          have k5 := run_signedTies ha
          have k7 := run_group ha hW2 (by unfold B40; omega)
          have k8 := run_element hN gW (by unfold B40; omega)
          rw [if_pos (by omega)] at k8
          exact ⟨_, 0, by rw [List.length_map]; unfold B40; omega, spec_RetractOn_p2 c1 h0 c4 c5 rfl k2 (by simpa using l1) k1 k3 k4, impl_RetractOn_p3 c2 h0 c3 rfl k6 (by simpa using l2) k5 k7 k8⟩
        · have hx := gx i hi
          have hk := (run_keep hM hx.1 hx.2).2
          have hh := half_nat hx.1
          have ht := hti i
          rw [filter_step hi] at hq
          cases hb : keepC M (G.getD i 0) with
          | true =>
            rw [hb, if_pos rfl] at hq
            rw [hb] at hk
            apply impl_RetractOn_r0_1
            case hq => rw [Nat.zero_add]; exact hq
            all_goals first | rfl | (rw [Nat.zero_add]; exact hk) | (rw [Nat.zero_add]; omega) | omega
          | false =>
            rw [hb, if_neg (by decide), List.append_nil] at hq
            rw [hb] at hk
            apply impl_RetractOn_r0_2
            case hq => exact hq
            all_goals first | rfl | (rw [Nat.zero_add]; exact hk) | (rw [Nat.zero_add]; omega) | omega
        · apply impl_RetractOn_r0_3
          case hq => simpa using hq
          all_goals omega
      · have hx := gx i hi
        have hk := (run_keep hM hx.1 hx.2).1
        have hh := half_nat hx.1
        have ht := hti i
        rw [filter_step hi] at hq
        cases hb : keepC M (G.getD i 0) with
        | true =>
          rw [hb, if_pos rfl] at hq
          rw [hb] at hk
          apply spec_RetractOn_r0_1
          case hq => rw [Nat.zero_add]; exact hq
          all_goals first | rfl | (rw [Nat.zero_add]; exact hk) | (rw [Nat.zero_add]; omega) | omega
        | false =>
          rw [hb, if_neg (by decide), List.append_nil] at hq
          rw [hb] at hk
          apply spec_RetractOn_r0_2
          case hq => exact hq
          all_goals first | rfl | (rw [Nat.zero_add]; exact hk) | (rw [Nat.zero_add]; omega) | omega
      · apply spec_RetractOn_r0_3
        case hq => simpa using hq
        all_goals omega
    · rw [decide_eq_false hm] at c3 c5
      exact ⟨[], 2, by simp [B40], spec_RetractOn_p1 c1 h0 c4 c5 rfl, impl_RetractOn_p2 c2 h0 c3 rfl⟩
  · exact ⟨[], sgCode n d [w], by simp [B40], spec_RetractOn_p3 c1 h0, impl_RetractOn_p1 c2 h0⟩

end Go.PR.S

end
