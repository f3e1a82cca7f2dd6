/- Path lemmas (written by Vc.lean). -/
import Derived.Test.YtdheehhnpjkdbaaDoorFwMk
import Derived.Test.YtdheehhnpjkdbaaDoorFwP28
import Derived.Test.YtdheehhnpjkdbaaDoorFwP13
section
/- Path lemmas (written by Vc.lean). -/
set_option linter.unusedVariables false
set_option linter.unusedSimpArgs false
set_option maxRecDepth 20000
open Go Go.PR Go.Proofs Go.PR.S
namespace Go.PR.S
-- loop.example/g01094/spec.DrawRetractOn
theorem spec_DrawRetractOn_ft : X.ft F.spec_DrawRetractOn = some Tryd.f40 := by kernel_rfl
theorem spec_DrawRetractOn_p1_e (c : List Int) (c1 : List Int) (a2 : Int) (h3 : Int) (n4 : Int) (xs5 : List Int) (ys6 : List Int) (b8 : Bool) (r11 : Int) (c12 : List Int) (a13 : Int) (h14 : Int) (ys15 : List Int) : fnV X F.spec_DrawRetractOn Tryd.f40 [.immI .u8 c] [] ⟨[true, true, true, true, true, true], [⟨.tup [.ptr 600000 0, .agg [.int .i64 n4, .rsl 600001 0 xs5.length], .rsl 600002 0 ys6.length], [], [⟨true, .var [.immI .u8 c1, .int .i64 a2, .int .u64 h3]⟩, ⟨true, .ints .i64 xs5⟩, ⟨true, .ints .i64 ys6⟩]⟩, ⟨.bool b8, [], []⟩, ⟨.int .i64 r11, [some ⟨true, .var [.immI .u8 c12, .int .i64 a13, .int .u64 h14]⟩, some ⟨true, .ints .i64 ys15⟩], []⟩], []⟩ = .ok (⟨.tup [.agg [.int .i64 n4, .rsl 600000 0 xs5.length], .rsl 600001 0 ys6.length, .int .i64 r11], [], [⟨true, .ints .i64 xs5⟩, ⟨true, .ints .i64 ys6⟩]⟩) ⟨[], [], []⟩ ⟨[(0 : Nat) + xs5.length ≤ xs5.length, (0 : Nat) = (0 : Nat) ∧ xs5.length = xs5.length, (!b8) = true, (!b8) = true, (!b8) = true, (!b8) = true, true = true], [⟨F.spec_l09Pair, [.immI .u8 c, .int .i64 6, .int .i64 24], [], ⟨.tup [.ptr 600000 0, .agg [.int .i64 n4, .rsl 600001 0 xs5.length], .rsl 600002 0 ys6.length], [], [⟨true, .var [.immI .u8 c1, .int .i64 a2, .int .u64 h3]⟩, ⟨true, .ints .i64 xs5⟩, ⟨true, .ints .i64 ys6⟩]⟩⟩, ⟨F.spec_l02Is, [.agg [.int .i64 n4, .immI .i64 xs5]], [], ⟨.bool b8, [], []⟩⟩, ⟨F.spec_l01Pick, [.ptr 500000 0, .rsl 500001 0 (3 : Nat)], [⟨true, .var [.immI .u8 c1, .int .i64 a2, .int .u64 h3]⟩, ⟨true, .ints .i64 [(-1 : Int), (256 : Int), (1099511627776 : Int)]⟩], ⟨.int .i64 r11, [some ⟨true, .var [.immI .u8 c12, .int .i64 a13, .int .u64 h14]⟩, some ⟨true, .ints .i64 ys15⟩], []⟩⟩], []⟩ := by kernel_rfl
theorem spec_DrawRetractOn_p1 {c : List Int} {c1 : List Int} {a2 : Int} {h3 : Int} {n4 : Int} {xs5 : List Int} {ys6 : List Int} (c7 : Runs X F.spec_l09Pair [.immI .u8 c, .int .i64 6, .int .i64 24] [] ⟨.tup [.ptr 600000 0, .agg [.int .i64 n4, .rsl 600001 0 xs5.length], .rsl 600002 0 ys6.length], [], [⟨true, .var [.immI .u8 c1, .int .i64 a2, .int .u64 h3]⟩, ⟨true, .ints .i64 xs5⟩, ⟨true, .ints .i64 ys6⟩]⟩) {b8 : Bool} (c9 : Runs X F.spec_l02Is [.agg [.int .i64 n4, .immI .i64 xs5]] [] ⟨.bool b8, [], []⟩) (h10 : b8 = false) {r11 : Int} {c12 : List Int} {a13 : Int} {h14 : Int} {ys15 : List Int} (c16 : Runs X F.spec_l01Pick [.ptr 500000 0, .rsl 500001 0 (3 : Nat)] [⟨true, .var [.immI .u8 c1, .int .i64 a2, .int .u64 h3]⟩, ⟨true, .ints .i64 [(-1 : Int), (256 : Int), (1099511627776 : Int)]⟩] ⟨.int .i64 r11, [some ⟨true, .var [.immI .u8 c12, .int .i64 a13, .int .u64 h14]⟩, some ⟨true, .ints .i64 ys15⟩], []⟩) : Runs X F.spec_DrawRetractOn [.immI .u8 c] [] ⟨.tup [.agg [.int .i64 n4, .rsl 600000 0 xs5.length], .rsl 600001 0 ys6.length, .int .i64 r11], [], [⟨true, .ints .i64 xs5⟩, ⟨true, .ints .i64 ys6⟩]⟩ :=
  Runs.path (by kernel_rfl) spec_DrawRetractOn_ft (spec_DrawRetractOn_p1_e c c1 a2 h3 n4 xs5 ys6 b8 r11 c12 a13 h14 ys15) (AllP.c (by first | omega | (simp; done) | (simp only [List.length_take, List.length_drop, List.length_append, List.length_set] at *; omega)) (AllP.c ⟨(by first | omega | (simp; done) | (simp only [List.length_take, List.length_drop, List.length_append, List.length_set] at *; omega)), (by omega)⟩ (AllP.c (not_t h10) (AllP.c (not_t h10) (AllP.c (not_t h10) (AllP.c (not_t h10) (AllP.c (by first | omega | (simp; done) | (simp only [List.length_take, List.length_drop, List.length_append, List.length_set] at *; omega)) trivial))))))) (AllC.c c7 (AllC.c c9 (AllC.c c16 trivial))) trivial
theorem spec_DrawRetractOn_p2_e (c : List Int) (c1 : List Int) (a2 : Int) (h3 : Int) (n4 : Int) (xs5 : List Int) (ys6 : List Int) (b8 : Bool) (r18 : Int) (c19 : List Int) (a20 : Int) (h21 : Int) (r24 : Int) (c25 : List Int) (a26 : Int) (h27 : Int) (ys28 : List Int) : fnV X F.spec_DrawRetractOn Tryd.f40 [.immI .u8 c] [] ⟨[true, false, false, false, false, true], [⟨.tup [.ptr 600000 0, .agg [.int .i64 n4, .rsl 600001 0 xs5.length], .rsl 600002 0 ys6.length], [], [⟨true, .var [.immI .u8 c1, .int .i64 a2, .int .u64 h3]⟩, ⟨true, .ints .i64 xs5⟩, ⟨true, .ints .i64 ys6⟩]⟩, ⟨.bool b8, [], []⟩, ⟨.int .i64 r18, [some ⟨true, .var [.immI .u8 c19, .int .i64 a20, .int .u64 h21]⟩], []⟩, ⟨.int .i64 r24, [some ⟨true, .var [.immI .u8 c25, .int .i64 a26, .int .u64 h27]⟩, some ⟨true, .ints .i64 ys28⟩], []⟩], []⟩ = .ok (⟨.tup [.agg [.int .i64 n4, .rsl 600000 0 xs5.length], .rsl 600001 0 ys6.length, .int .i64 r24], [], [⟨true, .ints .i64 xs5⟩, ⟨true, .ints .i64 ys6⟩]⟩) ⟨[], [], []⟩ ⟨[(0 : Nat) + xs5.length ≤ xs5.length, (0 : Nat) = (0 : Nat) ∧ xs5.length = xs5.length, (!b8) = false, (!b8) = false, (!b8) = false, (!b8) = false, (r18 == (0 : Int)) = true], [⟨F.spec_l09Pair, [.immI .u8 c, .int .i64 6, .int .i64 24], [], ⟨.tup [.ptr 600000 0, .agg [.int .i64 n4, .rsl 600001 0 xs5.length], .rsl 600002 0 ys6.length], [], [⟨true, .var [.immI .u8 c1, .int .i64 a2, .int .u64 h3]⟩, ⟨true, .ints .i64 xs5⟩, ⟨true, .ints .i64 ys6⟩]⟩⟩, ⟨F.spec_l02Is, [.agg [.int .i64 n4, .immI .i64 xs5]], [], ⟨.bool b8, [], []⟩⟩, ⟨F.spec_l01Next, [.ptr 500000 0, .int .i64 20], [⟨true, .var [.immI .u8 c1, .int .i64 a2, .int .u64 h3]⟩], ⟨.int .i64 r18, [some ⟨true, .var [.immI .u8 c19, .int .i64 a20, .int .u64 h21]⟩], []⟩⟩, ⟨F.spec_l01Pick, [.ptr 500000 0, .rsl 500001 0 (3 : Nat)], [⟨true, .var [.immI .u8 c19, .int .i64 a20, .int .u64 h21]⟩, ⟨true, .ints .i64 [(-1 : Int), (256 : Int), (1099511627776 : Int)]⟩], ⟨.int .i64 r24, [some ⟨true, .var [.immI .u8 c25, .int .i64 a26, .int .u64 h27]⟩, some ⟨true, .ints .i64 ys28⟩], []⟩⟩], []⟩ := by kernel_rfl
theorem spec_DrawRetractOn_p2 {c : List Int} {c1 : List Int} {a2 : Int} {h3 : Int} {n4 : Int} {xs5 : List Int} {ys6 : List Int} (c7 : Runs X F.spec_l09Pair [.immI .u8 c, .int .i64 6, .int .i64 24] [] ⟨.tup [.ptr 600000 0, .agg [.int .i64 n4, .rsl 600001 0 xs5.length], .rsl 600002 0 ys6.length], [], [⟨true, .var [.immI .u8 c1, .int .i64 a2, .int .u64 h3]⟩, ⟨true, .ints .i64 xs5⟩, ⟨true, .ints .i64 ys6⟩]⟩) {b8 : Bool} (c9 : Runs X F.spec_l02Is [.agg [.int .i64 n4, .immI .i64 xs5]] [] ⟨.bool b8, [], []⟩) (h17 : b8 = true) {r18 : Int} {c19 : List Int} {a20 : Int} {h21 : Int} (c22 : Runs X F.spec_l01Next [.ptr 500000 0, .int .i64 20] [⟨true, .var [.immI .u8 c1, .int .i64 a2, .int .u64 h3]⟩] ⟨.int .i64 r18, [some ⟨true, .var [.immI .u8 c19, .int .i64 a20, .int .u64 h21]⟩], []⟩) (h23 : r18 = (0 : Int)) {r24 : Int} {c25 : List Int} {a26 : Int} {h27 : Int} {ys28 : List Int} (c29 : Runs X F.spec_l01Pick [.ptr 500000 0, .rsl 500001 0 (3 : Nat)] [⟨true, .var [.immI .u8 c19, .int .i64 a20, .int .u64 h21]⟩, ⟨true, .ints .i64 [(-1 : Int), (256 : Int), (1099511627776 : Int)]⟩] ⟨.int .i64 r24, [some ⟨true, .var [.immI .u8 c25, .int .i64 a26, .int .u64 h27]⟩, some ⟨true, .ints .i64 ys28⟩], []⟩) : Runs X F.spec_DrawRetractOn [.immI .u8 c] [] ⟨.tup [.agg [.int .i64 n4, .rsl 600000 0 xs5.length], .rsl 600001 0 ys6.length, .int .i64 r24], [], [⟨true, .ints .i64 xs5⟩, ⟨true, .ints .i64 ys6⟩]⟩ :=
  Runs.path (by kernel_rfl) spec_DrawRetractOn_ft (spec_DrawRetractOn_p2_e c c1 a2 h3 n4 xs5 ys6 b8 r18 c19 a20 h21 r24 c25 a26 h27 ys28) (AllP.c (by first | omega | (simp; done) | (simp only [List.length_take, List.length_drop, List.length_append, List.length_set] at *; omega)) (AllP.c ⟨(by first | omega | (simp; done) | (simp only [List.length_take, List.length_drop, List.length_append, List.length_set] at *; omega)), (by omega)⟩ (AllP.c (not_f h17) (AllP.c (not_f h17) (AllP.c (not_f h17) (AllP.c (not_f h17) (AllP.c (beq_iff_eq.2 h23) trivial))))))) (AllC.c c7 (AllC.c c9 (AllC.c c22 (AllC.c c29 trivial)))) trivial
theorem spec_DrawRetractOn_p3_e (c : List Int) (c1 : List Int) (a2 : Int) (h3 : Int) (n4 : Int) (xs5 : List Int) (ys6 : List Int) (b8 : Bool) (r18 : Int) (c19 : List Int) (a20 : Int) (h21 : Int) (r31 : Int) (r33 : Int) (c34 : List Int) (a35 : Int) (h36 : Int) : fnV X F.spec_DrawRetractOn Tryd.f40 [.immI .u8 c] [] ⟨[true, false, false, false, false, false], [⟨.tup [.ptr 600000 0, .agg [.int .i64 n4, .rsl 600001 0 xs5.length], .rsl 600002 0 ys6.length], [], [⟨true, .var [.immI .u8 c1, .int .i64 a2, .int .u64 h3]⟩, ⟨true, .ints .i64 xs5⟩, ⟨true, .ints .i64 ys6⟩]⟩, ⟨.bool b8, [], []⟩, ⟨.int .i64 r18, [some ⟨true, .var [.immI .u8 c19, .int .i64 a20, .int .u64 h21]⟩], []⟩, ⟨.int .i64 r31, [], []⟩, ⟨.int .i64 r33, [some ⟨true, .var [.immI .u8 c34, .int .i64 a35, .int .u64 h36]⟩], []⟩], []⟩ = .ok (⟨.tup [.agg [.int .i64 n4, .rsl 600000 0 xs5.length], .rsl 600001 0 ys6.length, .int .i64 r33], [], [⟨true, .ints .i64 xs5⟩, ⟨true, .ints .i64 ys6⟩]⟩) ⟨[], [], []⟩ ⟨[(0 : Nat) + xs5.length ≤ xs5.length, (0 : Nat) = (0 : Nat) ∧ xs5.length = xs5.length, (!b8) = false, (!b8) = false, (!b8) = false, (!b8) = false, (r18 == (0 : Int)) = false], [⟨F.spec_l09Pair, [.immI .u8 c, .int .i64 6, .int .i64 24], [], ⟨.tup [.ptr 600000 0, .agg [.int .i64 n4, .rsl 600001 0 xs5.length], .rsl 600002 0 ys6.length], [], [⟨true, .var [.immI .u8 c1, .int .i64 a2, .int .u64 h3]⟩, ⟨true, .ints .i64 xs5⟩, ⟨true, .ints .i64 ys6⟩]⟩⟩, ⟨F.spec_l02Is, [.agg [.int .i64 n4, .immI .i64 xs5]], [], ⟨.bool b8, [], []⟩⟩, ⟨F.spec_l01Next, [.ptr 500000 0, .int .i64 20], [⟨true, .var [.immI .u8 c1, .int .i64 a2, .int .u64 h3]⟩], ⟨.int .i64 r18, [some ⟨true, .var [.immI .u8 c19, .int .i64 a20, .int .u64 h21]⟩], []⟩⟩, ⟨F.spec_l01One, [.int .i64 n4], [], ⟨.int .i64 r31, [], []⟩⟩, ⟨F.spec_l01Next, [.ptr 500000 0, .int .i64 r31], [⟨true, .var [.immI .u8 c19, .int .i64 a20, .int .u64 h21]⟩], ⟨.int .i64 r33, [some ⟨true, .var [.immI .u8 c34, .int .i64 a35, .int .u64 h36]⟩], []⟩⟩], []⟩ := by kernel_rfl
theorem spec_DrawRetractOn_p3 {c : List Int} {c1 : List Int} {a2 : Int} {h3 : Int} {n4 : Int} {xs5 : List Int} {ys6 : List Int} (c7 : Runs X F.spec_l09Pair [.immI .u8 c, .int .i64 6, .int .i64 24] [] ⟨.tup [.ptr 600000 0, .agg [.int .i64 n4, .rsl 600001 0 xs5.length], .rsl 600002 0 ys6.length], [], [⟨true, .var [.immI .u8 c1, .int .i64 a2, .int .u64 h3]⟩, ⟨true, .ints .i64 xs5⟩, ⟨true, .ints .i64 ys6⟩]⟩) {b8 : Bool} (c9 : Runs X F.spec_l02Is [.agg [.int .i64 n4, .immI .i64 xs5]] [] ⟨.bool b8, [], []⟩) (h17 : b8 = true) {r18 : Int} {c19 : List Int} {a20 : Int} {h21 : Int} (c22 : Runs X F.spec_l01Next [.ptr 500000 0, .int .i64 20] [⟨true, .var [.immI .u8 c1, .int .i64 a2, .int .u64 h3]⟩] ⟨.int .i64 r18, [some ⟨true, .var [.immI .u8 c19, .int .i64 a20, .int .u64 h21]⟩], []⟩) (h30 : ¬r18 = (0 : Int)) {r31 : Int} (c32 : Runs X F.spec_l01One [.int .i64 n4] [] ⟨.int .i64 r31, [], []⟩) {r33 : Int} {c34 : List Int} {a35 : Int} {h36 : Int} (c37 : Runs X F.spec_l01Next [.ptr 500000 0, .int .i64 r31] [⟨true, .var [.immI .u8 c19, .int .i64 a20, .int .u64 h21]⟩] ⟨.int .i64 r33, [some ⟨true, .var [.immI .u8 c34, .int .i64 a35, .int .u64 h36]⟩], []⟩) : Runs X F.spec_DrawRetractOn [.immI .u8 c] [] ⟨.tup [.agg [.int .i64 n4, .rsl 600000 0 xs5.length], .rsl 600001 0 ys6.length, .int .i64 r33], [], [⟨true, .ints .i64 xs5⟩, ⟨true, .ints .i64 ys6⟩]⟩ :=
  Runs.path (by kernel_rfl) spec_DrawRetractOn_ft (spec_DrawRetractOn_p3_e c c1 a2 h3 n4 xs5 ys6 b8 r18 c19 a20 h21 r31 r33 c34 a35 h36) (AllP.c (by first | omega | (simp; done) | (simp only [List.length_take, List.length_drop, List.length_append, List.length_set] at *; omega)) (AllP.c ⟨(by first | omega | (simp; done) | (simp only [List.length_take, List.length_drop, List.length_append, List.length_set] at *; omega)), (by omega)⟩ (AllP.c (not_f h17) (AllP.c (not_f h17) (AllP.c (not_f h17) (AllP.c (not_f h17) (AllP.c (beq_false_of_ne h30) trivial))))))) (AllC.c c7 (AllC.c c9 (AllC.c c22 (AllC.c c32 (AllC.c c37 trivial))))) trivial
-- loop.example/g01094/spec.l09Two
-- loop.example/g01094/spec.DrawGroupProduct
-- loop.example/g01094/spec.l09Framed
-- loop.example/g01094/spec.DrawCyclicReduction
-- loop.example/g01094/spec.DrawAreGroupEqual
end Go.PR.S

end

section
/- Draws: the arguments of the laws of the group. -/
set_option linter.unusedVariables false
set_option linter.unusedSimpArgs false
set_option maxRecDepth 20000
namespace Go.PR.S
open Go Go.PR Go.Proofs Gp

/-- The normal form of a word that is one. -/
theorem run_GroupForm' {N : Nat} {d w : List Int} (ha0 : Al N d) (h0 : sgCode N d [w] = 0) (hd : d.length ≤ B40) (hw : w.length ≤ B40) :
    ∃ xs : List Int, xs.length ≤ 24 ∧ xs = (gnf ha0 (w.map code)).map sign ∧ Runs X F.spec_GroupForm [alD N d, lD w] [] (pairR xs 0) ∧ Runs X F.impl_GroupForm [alD N d, lD w] [] (pairR xs 0) := by
  have c1 := run_l09Code N d w w hd hw hw
  rw [sg_twice] at c1
  have c2 : Runs X F.impl_checkSigned [alD N d, .imm2 .i64 [w]] [] (intR (sgCode N d [w])) := run_checkSigned N d [w] hd (by simp [B40]) (by simp [hw])
  obtain ⟨N', ha, hNe, hN, hl, hb, hz, hW⟩ := sg_one h0
  obtain rfl : N = N' := by omega
  have hc : (w.map code).length ≤ 24 := by simpa using hl
  have hg := gnf_le ha hW
  have k1 := run_l09Double ha
  have k2 := run_l09In hb hz hw
  have k3 := run_l09Reduce ha hW (by unfold B40; omega)
  have gW : Wd (2 * N) (gnf ha (w.map code)) := gnf_Wd ha hW
  have k4 := run_l09Out hN gW (by unfold B40; omega)
  have k5 := run_signedTies ha
  have k6 := run_codesOf hb hw
  have k7 := run_group ha hW (by unfold B40; omega)
  have k8 := run_element hN gW (by unfold B40; omega)
  rw [if_pos (by omega)] at k8
  exact ⟨_, by rw [List.length_map]; omega, rfl, spec_GroupForm_p2 c1 h0 k1 k2 k3 k4, impl_GroupForm_p2 c2 h0 k5 k6 k7 k8⟩

section
variable {c : List Int} (hc : Bytes c)
include hc

theorem run_DrawRetractOn : ∃ (n : Int) (xs ys : List Int) (m : Int), xs.length ≤ 9 ∧ ys.length ≤ 33 ∧
    Runs X F.spec_DrawRetractOn [bD c] [] ⟨.tup [.agg [iD n, .rsl 600000 0 xs.length], .rsl 600001 0 ys.length, iD m], [], [iRow xs, iRow ys]⟩ := by
  obtain ⟨a, h, n, xs, ys, ha, hx, hy, hrun⟩ := run_l09Pair hc (l := 6) (by omega) (by omega) (m := 24) (by omega)
  have c9 := run_l02Is n xs (by unfold B40; omega)
  cases hal : alOK n xs with
  | false =>
    rw [hal] at c9
    obtain ⟨p, a1, h1, ha1, _, hpick⟩ := run_l01Pick hc [-1, 256, 1099511627776] (by simp) a h ha
    exact ⟨n, xs, ys, p, hx, hy, spec_DrawRetractOn_p1 hrun c9 rfl hpick⟩
  | true =>
    rw [hal] at c9
    obtain ⟨r, a1, h1, ha1, _, _, _, hrun1⟩ := run_l01Next hc 20 a h ha
    by_cases hz : r = 0
    · obtain ⟨p, a2, h2, ha2, _, hpick⟩ := run_l01Pick hc [-1, 256, 1099511627776] (by simp) a1 h1 ha1
      exact ⟨n, xs, ys, p, hx, hy, spec_DrawRetractOn_p2 hrun c9 rfl hrun1 hz hpick⟩
    · have hn := alOK_n hal
      obtain ⟨N, rfl⟩ := Int.eq_ofNat_of_zero_le hn.1
      obtain ⟨p, a2, h2, ha2, _, _, _, hrun2⟩ := run_l01Next hc ((2 ^ N : Nat) : Int) a1 h1 ha1
      exact ⟨N, xs, ys, p, hx, hy, spec_DrawRetractOn_p3 hrun c9 rfl hrun1 hz (run_l01One (i := N) (by omega)) hrun2⟩

end

end Go.PR.S

end
