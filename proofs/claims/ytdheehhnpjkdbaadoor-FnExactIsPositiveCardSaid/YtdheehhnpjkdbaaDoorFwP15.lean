/- Is an element of the group positive: the reference and the implementation answer alike; the law comes to true. -/
import Derived.Test.YtdheehhnpjkdbaaDoorFwS
import Derived.Test.YtdheehhnpjkdbaaDoorFwP13
/- Path lemmas (written by Vc.lean). -/
set_option linter.unusedVariables false
set_option linter.unusedSimpArgs false
set_option maxRecDepth 20000
open Go Go.PR Go.Proofs Go.PR.S
namespace Go.PR.S
-- loop.example/g01094/laws.FnExactIsPositive
theorem laws_FnExactIsPositive_ft : X.ft F.laws_FnExactIsPositive = some Tryd.f4 := by kernel_rfl
theorem laws_FnExactIsPositive_p1_e (n : Int) (d : List Int) (w : List Int) : fnV X F.laws_FnExactIsPositive Tryd.f4 [D.agg [D.int IntKind.i64 n, D.immI IntKind.i64 d], D.immI IntKind.i64 w] [] { ds := [true], rs := [], lo := [] } = .ok ({ res := D.bool true, passed := [], out := [] }) ⟨[], [], []⟩ ⟨[decide ((↑w.length : Int) > (1048576 : Int)) = true], [], []⟩ := by kernel_rfl
theorem laws_FnExactIsPositive_p1 {n : Int} {d : List Int} {w : List Int} (h1 : (↑w.length : Int) > (1048576 : Int)) : Runs X F.laws_FnExactIsPositive [D.agg [D.int IntKind.i64 n, D.immI IntKind.i64 d], D.immI IntKind.i64 w] [] { res := D.bool true, passed := [], out := [] } :=
  Runs.path (by kernel_rfl) laws_FnExactIsPositive_ft (laws_FnExactIsPositive_p1_e n d w) (AllP.c (decide_eq_true h1) trivial) trivial trivial
theorem laws_FnExactIsPositive_p2_e (n : Int) (d : List Int) (w : List Int) (r3 : Int) : fnV X F.laws_FnExactIsPositive Tryd.f4 [D.agg [D.int IntKind.i64 n, D.immI IntKind.i64 d], D.immI IntKind.i64 w] [] { ds := [false, true], rs := [{ res := D.int IntKind.i64 r3, passed := [], out := [] }], lo := [] } = .ok ({ res := D.bool true, passed := [], out := [] }) ⟨[], [], []⟩ ⟨[decide ((↑w.length : Int) > (1048576 : Int)) = false, decide (r3 < (0 : Int)) = true], [{ f := F.laws_szAlphabet, args := [D.agg [D.int IntKind.i64 n, D.immI IntKind.i64 d], D.int IntKind.i64 (1048576 : Int)], prows := [], ret := { res := D.int IntKind.i64 r3, passed := [], out := [] } }], []⟩ := by kernel_rfl
theorem laws_FnExactIsPositive_p2 {n : Int} {d : List Int} {w : List Int} (h2 : ¬(↑w.length : Int) > (1048576 : Int)) {r3 : Int} (c4 : Runs X F.laws_szAlphabet [D.agg [D.int IntKind.i64 n, D.immI IntKind.i64 d], D.int IntKind.i64 (1048576 : Int)] [] { res := D.int IntKind.i64 r3, passed := [], out := [] }) (h5 : r3 < (0 : Int)) : Runs X F.laws_FnExactIsPositive [D.agg [D.int IntKind.i64 n, D.immI IntKind.i64 d], D.immI IntKind.i64 w] [] { res := D.bool true, passed := [], out := [] } :=
  Runs.path (by kernel_rfl) laws_FnExactIsPositive_ft (laws_FnExactIsPositive_p2_e n d w r3) (AllP.c (decide_eq_false h2) (AllP.c (decide_eq_true h5) trivial)) (AllC.c c4 trivial) trivial
theorem laws_FnExactIsPositive_p7_e (n : Int) (d : List Int) (w : List Int) (r3 : Int) (n7 : Int) (xs8 : List Int) (xs10 : List Int) (b12 : Bool) (r13 : Int) (n15 : Int) (xs16 : List Int) (xs18 : List Int) (b20 : Bool) (r21 : Int) (n27 : Int) (xs28 : List Int) (b30 : Bool) (xs34 : List Int) (b36 : Bool) : fnV X F.laws_FnExactIsPositive Tryd.f4 [D.agg [D.int IntKind.i64 n, D.immI IntKind.i64 d], D.immI IntKind.i64 w] [] { ds := [false, false, true, true, true, true, false, false, false, false, false, true, true, false, true, true, false], rs := [{ res := D.int IntKind.i64 r3, passed := [], out := [] }, { res := D.agg [D.int IntKind.i64 n7, D.rsl (600000 : Nat) (0 : Nat) xs8.length], passed := [], out := [{ wr := true, c := Cont.ints IntKind.i64 xs8 }] }, { res := D.rsl (600000 : Nat) (0 : Nat) xs10.length, passed := [], out := [{ wr := true, c := Cont.ints IntKind.i64 xs10 }] }, { res := D.tup [D.bool b12, D.int IntKind.i64 r13], passed := [], out := [] }, { res := D.agg [D.int IntKind.i64 n15, D.rsl (600000 : Nat) (0 : Nat) xs16.length], passed := [], out := [{ wr := true, c := Cont.ints IntKind.i64 xs16 }] }, { res := D.rsl (600000 : Nat) (0 : Nat) xs18.length, passed := [], out := [{ wr := true, c := Cont.ints IntKind.i64 xs18 }] }, { res := D.tup [D.bool b20, D.int IntKind.i64 r21], passed := [], out := [] }, { res := D.agg [D.int IntKind.i64 n27, D.rsl (600000 : Nat) (0 : Nat) xs28.length], passed := [], out := [{ wr := true, c := Cont.ints IntKind.i64 xs28 }] }, { res := D.bool b30, passed := [], out := [] }, { res := D.rsl (600000 : Nat) (0 : Nat) xs34.length, passed := [], out := [{ wr := true, c := Cont.ints IntKind.i64 xs34 }] }, { res := D.bool b36, passed := [], out := [] }], lo := [] } = .ok ({ res := D.bool true, passed := [], out := [] }) ⟨[], [], []⟩ ⟨[decide ((↑w.length : Int) > (1048576 : Int)) = false, decide (r3 < (0 : Int)) = false, (0 : Nat) + xs8.length ≤ xs8.length, (0 : Nat) = (0 : Nat) ∧ xs8.length = xs8.length, (0 : Nat) + xs10.length ≤ xs10.length, (0 : Nat) = (0 : Nat) ∧ xs10.length = xs10.length, (0 : Nat) + xs16.length ≤ xs16.length, (0 : Nat) = (0 : Nat) ∧ xs16.length = xs16.length, (0 : Nat) + xs18.length ≤ xs18.length, (0 : Nat) = (0 : Nat) ∧ xs18.length = xs18.length, (!b20 == b12) = false, (!b20 == b12) = false, (!b20 == b12) = false, (!b20 == b12) = false, (r21 != r13) = false, (0 : Nat) + xs16.length ≤ xs16.length, (0 : Nat) = (0 : Nat) ∧ xs16.length = xs16.length, (0 : Nat) + xs28.length ≤ xs28.length, (0 : Nat) = (0 : Nat) ∧ xs28.length = xs28.length, (!b30) = false, (0 : Nat) + xs18.length ≤ xs18.length, (0 : Nat) = (0 : Nat) ∧ xs18.length = xs18.length, (0 : Nat) + xs34.length ≤ xs34.length, (0 : Nat) = (0 : Nat) ∧ xs34.length = xs34.length, (!b36) = false], [{ f := F.laws_szAlphabet, args := [D.agg [D.int IntKind.i64 n, D.immI IntKind.i64 d], D.int IntKind.i64 (1048576 : Int)], prows := [], ret := { res := D.int IntKind.i64 r3, passed := [], out := [] } }, { f := F.laws_toAlphabet, args := [D.agg [D.int IntKind.i64 n, D.immI IntKind.i64 d]], prows := [], ret := { res := D.agg [D.int IntKind.i64 n7, D.rsl (600000 : Nat) (0 : Nat) xs8.length], passed := [], out := [{ wr := true, c := Cont.ints IntKind.i64 xs8 }] } }, { f := F.laws_toInt64S, args := [D.immI IntKind.i64 w], prows := [], ret := { res := D.rsl (600000 : Nat) (0 : Nat) xs10.length, passed := [], out := [{ wr := true, c := Cont.ints IntKind.i64 xs10 }] } }, { f := F.spec_IsPositive, args := [D.agg [D.int IntKind.i64 n7, D.immI IntKind.i64 xs8], D.immI IntKind.i64 xs10], prows := [], ret := { res := D.tup [D.bool b12, D.int IntKind.i64 r13], passed := [], out := [] } }, { f := F.laws_toAlphabet, args := [D.agg [D.int IntKind.i64 n, D.immI IntKind.i64 d]], prows := [], ret := { res := D.agg [D.int IntKind.i64 n15, D.rsl (600000 : Nat) (0 : Nat) xs16.length], passed := [], out := [{ wr := true, c := Cont.ints IntKind.i64 xs16 }] } }, { f := F.laws_toInt64S, args := [D.immI IntKind.i64 w], prows := [], ret := { res := D.rsl (600000 : Nat) (0 : Nat) xs18.length, passed := [], out := [{ wr := true, c := Cont.ints IntKind.i64 xs18 }] } }, { f := F.impl_IsPositive, args := [D.agg [D.int IntKind.i64 n15, D.immI IntKind.i64 xs16], D.immI IntKind.i64 xs18], prows := [], ret := { res := D.tup [D.bool b20, D.int IntKind.i64 r21], passed := [], out := [] } }, { f := F.laws_toAlphabet, args := [D.agg [D.int IntKind.i64 n, D.immI IntKind.i64 d]], prows := [], ret := { res := D.agg [D.int IntKind.i64 n27, D.rsl (600000 : Nat) (0 : Nat) xs28.length], passed := [], out := [{ wr := true, c := Cont.ints IntKind.i64 xs28 }] } }, { f := F.laws_eqAlphabet, args := [D.agg [D.int IntKind.i64 n15, D.immI IntKind.i64 xs16], D.agg [D.int IntKind.i64 n27, D.immI IntKind.i64 xs28]], prows := [], ret := { res := D.bool b30, passed := [], out := [] } }, { f := F.laws_toInt64S, args := [D.immI IntKind.i64 w], prows := [], ret := { res := D.rsl (600000 : Nat) (0 : Nat) xs34.length, passed := [], out := [{ wr := true, c := Cont.ints IntKind.i64 xs34 }] } }, { f := F.laws_eqInt64S, args := [D.immI IntKind.i64 xs18, D.immI IntKind.i64 xs34], prows := [], ret := { res := D.bool b36, passed := [], out := [] } }], []⟩ := by kernel_rfl
theorem laws_FnExactIsPositive_p7 {n : Int} {d : List Int} {w : List Int} (h2 : ¬(↑w.length : Int) > (1048576 : Int)) {r3 : Int} (c4 : Runs X F.laws_szAlphabet [D.agg [D.int IntKind.i64 n, D.immI IntKind.i64 d], D.int IntKind.i64 (1048576 : Int)] [] { res := D.int IntKind.i64 r3, passed := [], out := [] }) (h6 : ¬r3 < (0 : Int)) {n7 : Int} {xs8 : List Int} (c9 : Runs X F.laws_toAlphabet [D.agg [D.int IntKind.i64 n, D.immI IntKind.i64 d]] [] { res := D.agg [D.int IntKind.i64 n7, D.rsl (600000 : Nat) (0 : Nat) xs8.length], passed := [], out := [{ wr := true, c := Cont.ints IntKind.i64 xs8 }] }) {xs10 : List Int} (c11 : Runs X F.laws_toInt64S [D.immI IntKind.i64 w] [] { res := D.rsl (600000 : Nat) (0 : Nat) xs10.length, passed := [], out := [{ wr := true, c := Cont.ints IntKind.i64 xs10 }] }) {b12 : Bool} {r13 : Int} (c14 : Runs X F.spec_IsPositive [D.agg [D.int IntKind.i64 n7, D.immI IntKind.i64 xs8], D.immI IntKind.i64 xs10] [] { res := D.tup [D.bool b12, D.int IntKind.i64 r13], passed := [], out := [] }) {n15 : Int} {xs16 : List Int} (c17 : Runs X F.laws_toAlphabet [D.agg [D.int IntKind.i64 n, D.immI IntKind.i64 d]] [] { res := D.agg [D.int IntKind.i64 n15, D.rsl (600000 : Nat) (0 : Nat) xs16.length], passed := [], out := [{ wr := true, c := Cont.ints IntKind.i64 xs16 }] }) {xs18 : List Int} (c19 : Runs X F.laws_toInt64S [D.immI IntKind.i64 w] [] { res := D.rsl (600000 : Nat) (0 : Nat) xs18.length, passed := [], out := [{ wr := true, c := Cont.ints IntKind.i64 xs18 }] }) {b20 : Bool} {r21 : Int} (c22 : Runs X F.impl_IsPositive [D.agg [D.int IntKind.i64 n15, D.immI IntKind.i64 xs16], D.immI IntKind.i64 xs18] [] { res := D.tup [D.bool b20, D.int IntKind.i64 r21], passed := [], out := [] }) (h24 : b20 = b12) (h26 : r21 = r13) {n27 : Int} {xs28 : List Int} (c29 : Runs X F.laws_toAlphabet [D.agg [D.int IntKind.i64 n, D.immI IntKind.i64 d]] [] { res := D.agg [D.int IntKind.i64 n27, D.rsl (600000 : Nat) (0 : Nat) xs28.length], passed := [], out := [{ wr := true, c := Cont.ints IntKind.i64 xs28 }] }) {b30 : Bool} (c31 : Runs X F.laws_eqAlphabet [D.agg [D.int IntKind.i64 n15, D.immI IntKind.i64 xs16], D.agg [D.int IntKind.i64 n27, D.immI IntKind.i64 xs28]] [] { res := D.bool b30, passed := [], out := [] }) (h33 : b30 = true) {xs34 : List Int} (c35 : Runs X F.laws_toInt64S [D.immI IntKind.i64 w] [] { res := D.rsl (600000 : Nat) (0 : Nat) xs34.length, passed := [], out := [{ wr := true, c := Cont.ints IntKind.i64 xs34 }] }) {b36 : Bool} (c37 : Runs X F.laws_eqInt64S [D.immI IntKind.i64 xs18, D.immI IntKind.i64 xs34] [] { res := D.bool b36, passed := [], out := [] }) (h39 : b36 = true) : Runs X F.laws_FnExactIsPositive [D.agg [D.int IntKind.i64 n, D.immI IntKind.i64 d], D.immI IntKind.i64 w] [] { res := D.bool true, passed := [], out := [] } :=
  Runs.path (by kernel_rfl) laws_FnExactIsPositive_ft (laws_FnExactIsPositive_p7_e n d w r3 n7 xs8 xs10 b12 r13 n15 xs16 xs18 b20 r21 n27 xs28 b30 xs34 b36) (AllP.c (decide_eq_false h2) (AllP.c (decide_eq_false h6) (AllP.c (by first | omega | (simp; done) | (simp only [List.length_take, List.length_drop, List.length_append, List.length_set] at *; omega)) (AllP.c ⟨(by first | omega | (simp; done) | (simp only [List.length_take, List.length_drop, List.length_append, List.length_set] at *; omega)), (by omega)⟩ (AllP.c (by first | omega | (simp; done) | (simp only [List.length_take, List.length_drop, List.length_append, List.length_set] at *; omega)) (AllP.c ⟨(by first | omega | (simp; done) | (simp only [List.length_take, List.length_drop, List.length_append, List.length_set] at *; omega)), (by omega)⟩ (AllP.c (by first | omega | (simp; done) | (simp only [List.length_take, List.length_drop, List.length_append, List.length_set] at *; omega)) (AllP.c ⟨(by first | omega | (simp; done) | (simp only [List.length_take, List.length_drop, List.length_append, List.length_set] at *; omega)), (by omega)⟩ (AllP.c (by first | omega | (simp; done) | (simp only [List.length_take, List.length_drop, List.length_append, List.length_set] at *; omega)) (AllP.c ⟨(by first | omega | (simp; done) | (simp only [List.length_take, List.length_drop, List.length_append, List.length_set] at *; omega)), (by omega)⟩ (AllP.c (not_f (beq_iff_eq.2 h24)) (AllP.c (not_f (beq_iff_eq.2 h24)) (AllP.c (not_f (beq_iff_eq.2 h24)) (AllP.c (not_f (beq_iff_eq.2 h24)) (AllP.c (bne_eq_false_iff_eq.2 h26) (AllP.c (by first | omega | (simp; done) | (simp only [List.length_take, List.length_drop, List.length_append, List.length_set] at *; omega)) (AllP.c ⟨(by first | omega | (simp; done) | (simp only [List.length_take, List.length_drop, List.length_append, List.length_set] at *; omega)), (by omega)⟩ (AllP.c (by first | omega | (simp; done) | (simp only [List.length_take, List.length_drop, List.length_append, List.length_set] at *; omega)) (AllP.c ⟨(by first | omega | (simp; done) | (simp only [List.length_take, List.length_drop, List.length_append, List.length_set] at *; omega)), (by omega)⟩ (AllP.c (not_f h33) (AllP.c (by first | omega | (simp; done) | (simp only [List.length_take, List.length_drop, List.length_append, List.length_set] at *; omega)) (AllP.c ⟨(by first | omega | (simp; done) | (simp only [List.length_take, List.length_drop, List.length_append, List.length_set] at *; omega)), (by omega)⟩ (AllP.c (by first | omega | (simp; done) | (simp only [List.length_take, List.length_drop, List.length_append, List.length_set] at *; omega)) (AllP.c ⟨(by first | omega | (simp; done) | (simp only [List.length_take, List.length_drop, List.length_append, List.length_set] at *; omega)), (by omega)⟩ (AllP.c (not_f h39) trivial))))))))))))))))))))))))) (AllC.c c4 (AllC.c c9 (AllC.c c11 (AllC.c c14 (AllC.c c17 (AllC.c c19 (AllC.c c22 (AllC.c c29 (AllC.c c31 (AllC.c c35 (AllC.c c37 trivial))))))))))) trivial
-- loop.example/g01094/spec.IsPositive
theorem spec_IsPositive_ft : X.ft F.spec_IsPositive = some Tryd.f22 := by kernel_rfl
theorem spec_IsPositive_p1_e (n : Int) (d : List Int) (w : List Int) (xs1 : List Int) (r2 : Int) : fnV X F.spec_IsPositive Tryd.f22 [D.agg [D.int IntKind.i64 n, D.immI IntKind.i64 d], D.immI IntKind.i64 w] [] { ds := [true], rs := [{ res := D.tup [D.rsl (600000 : Nat) (0 : Nat) xs1.length, D.int IntKind.i64 r2], passed := [], out := [{ wr := true, c := Cont.ints IntKind.i64 xs1 }] }], lo := [] } = .ok ({ res := D.tup [D.bool false, D.int IntKind.i64 r2], passed := [], out := [] }) ⟨[], [], []⟩ ⟨[(r2 != (0 : Int)) = true], [{ f := F.spec_GroupForm, args := [D.agg [D.int IntKind.i64 n, D.immI IntKind.i64 d], D.immI IntKind.i64 w], prows := [], ret := { res := D.tup [D.rsl (600000 : Nat) (0 : Nat) xs1.length, D.int IntKind.i64 r2], passed := [], out := [{ wr := true, c := Cont.ints IntKind.i64 xs1 }] } }], []⟩ := by kernel_rfl
theorem spec_IsPositive_p1 {n : Int} {d : List Int} {w : List Int} {xs1 : List Int} {r2 : Int} (c3 : Runs X F.spec_GroupForm [D.agg [D.int IntKind.i64 n, D.immI IntKind.i64 d], D.immI IntKind.i64 w] [] { res := D.tup [D.rsl (600000 : Nat) (0 : Nat) xs1.length, D.int IntKind.i64 r2], passed := [], out := [{ wr := true, c := Cont.ints IntKind.i64 xs1 }] }) (h4 : ¬r2 = (0 : Int)) : Runs X F.spec_IsPositive [D.agg [D.int IntKind.i64 n, D.immI IntKind.i64 d], D.immI IntKind.i64 w] [] { res := D.tup [D.bool false, D.int IntKind.i64 r2], passed := [], out := [] } :=
  Runs.path (by kernel_rfl) spec_IsPositive_ft (spec_IsPositive_p1_e n d w xs1 r2) (AllP.c (bne_iff_ne.2 h4) trivial) (AllC.c c3 trivial) trivial
def spec_IsPositive_s0 (xs1 : List Int) (t8a : Nat) : LSt := { env := mkE (29 : Nat) (0 : Nat) [((6 : Nat), D.rsl (6 : Nat) (0 : Nat) xs1.length), ((8 : Nat), D.int IntKind.i64 (↑t8a : Int))], rl := [((6 : Nat), { wr := true, c := Cont.ints IntKind.i64 xs1 })] }
def spec_IsPositive_o0_1 : OutL := OutL.ret { env := mkE (29 : Nat) (0 : Nat) [((4 : Nat), D.bool false), ((5 : Nat), D.int IntKind.i64 (0 : Int))], rl := [] }
def spec_IsPositive_o0_2 : OutL := OutL.exit (0 : Nat) { env := mkE (29 : Nat) (0 : Nat) [], rl := [] }
theorem spec_IsPositive_r0_1_e (xs1 : List Int) (t8a : Nat) : roundV X F.spec_IsPositive (0 : Nat) (lb Tryd.f22 (0 : Nat)) (spec_IsPositive_s0 xs1 t8a) { ds := [true, true], rs := [], lo := [] } = .ok (spec_IsPositive_o0_1) ⟨[], [], []⟩ ⟨[decide ((↑t8a : Int) < (↑xs1.length : Int)) = true, (0 : Int) ≤ (↑t8a : Int) ∧ (↑t8a : Int) < (↑xs1.length : Int), (0 : Nat) + t8a < xs1.length, decide (xs1.getD ((0 : Nat) + t8a) (0 : Int) < (0 : Int)) = true], [], []⟩ := by kernel_rfl
theorem spec_IsPositive_r0_1 {Q : Out → Prop} {xs1 : List Int} {t8a : Nat} (h6 : (↑t8a : Int) < (↑xs1.length : Int)) (h7 : xs1.getD ((0 : Nat) + t8a) (0 : Int) < (0 : Int)) (hq : Q (spec_IsPositive_o0_1).out) : WpL X F.spec_IsPositive 0 (lb Tryd.f22 (0 : Nat)) (spec_IsPositive_s0 xs1 t8a).st Q :=
  roundV_path (spec_IsPositive_r0_1_e xs1 t8a) (AllP.c (decide_eq_true h6) (AllP.c ⟨(by omega), h6⟩ (AllP.c (by first | omega | (simp; done) | (simp only [List.length_take, List.length_drop, List.length_append, List.length_set] at *; omega)) (AllP.c (decide_eq_true h7) trivial)))) trivial trivial hq
theorem spec_IsPositive_r0_2_e (xs1 : List Int) (t8a : Nat) : roundV X F.spec_IsPositive (0 : Nat) (lb Tryd.f22 (0 : Nat)) (spec_IsPositive_s0 xs1 t8a) { ds := [true, false], rs := [], lo := [] } = .ok (OutL.normal (spec_IsPositive_s0 xs1 (t8a + (1 : Nat)))) ⟨[], [], []⟩ ⟨[decide ((↑t8a : Int) < (↑xs1.length : Int)) = true, (0 : Int) ≤ (↑t8a : Int) ∧ (↑t8a : Int) < (↑xs1.length : Int), (0 : Nat) + t8a < xs1.length, decide (xs1.getD ((0 : Nat) + t8a) (0 : Int) < (0 : Int)) = false, inR ((↑t8a : Int) + (1 : Int))], [], []⟩ := by kernel_rfl
theorem spec_IsPositive_r0_2 {Q : Out → Prop} {xs1 : List Int} {t8a : Nat} (h6 : (↑t8a : Int) < (↑xs1.length : Int)) (h8 : ¬xs1.getD ((0 : Nat) + t8a) (0 : Int) < (0 : Int)) (h9 : (↑t8a : Int) + (1 : Int) ≤ (9223372036854775807 : Int)) (hq : WpL X F.spec_IsPositive 0 (lb Tryd.f22 (0 : Nat)) (spec_IsPositive_s0 xs1 (t8a + (1 : Nat))).st Q) : WpL X F.spec_IsPositive 0 (lb Tryd.f22 (0 : Nat)) (spec_IsPositive_s0 xs1 t8a).st Q :=
  roundV_path (spec_IsPositive_r0_2_e xs1 t8a) (AllP.c (decide_eq_true h6) (AllP.c ⟨(by omega), h6⟩ (AllP.c (by first | omega | (simp; done) | (simp only [List.length_take, List.length_drop, List.length_append, List.length_set] at *; omega)) (AllP.c (decide_eq_false h8) (AllP.c ⟨(by omega), h9⟩ trivial))))) trivial trivial hq
theorem spec_IsPositive_r0_3_e (xs1 : List Int) (t8a : Nat) : roundV X F.spec_IsPositive (0 : Nat) (lb Tryd.f22 (0 : Nat)) (spec_IsPositive_s0 xs1 t8a) { ds := [false], rs := [], lo := [] } = .ok (spec_IsPositive_o0_2) ⟨[], [], []⟩ ⟨[decide ((↑t8a : Int) < (↑xs1.length : Int)) = false], [], []⟩ := by kernel_rfl
theorem spec_IsPositive_r0_3 {Q : Out → Prop} {xs1 : List Int} {t8a : Nat} (h10 : ¬(↑t8a : Int) < (↑xs1.length : Int)) (hq : Q (spec_IsPositive_o0_2).out) : WpL X F.spec_IsPositive 0 (lb Tryd.f22 (0 : Nat)) (spec_IsPositive_s0 xs1 t8a).st Q :=
  roundV_path (spec_IsPositive_r0_3_e xs1 t8a) (AllP.c (decide_eq_false h10) trivial) trivial trivial hq
theorem spec_IsPositive_p2_e (n : Int) (d : List Int) (w : List Int) (xs1 : List Int) (r2 : Int) : fnV X F.spec_IsPositive Tryd.f22 [D.agg [D.int IntKind.i64 n, D.immI IntKind.i64 d], D.immI IntKind.i64 w] [] { ds := [false], rs := [{ res := D.tup [D.rsl (600000 : Nat) (0 : Nat) xs1.length, D.int IntKind.i64 r2], passed := [], out := [{ wr := true, c := Cont.ints IntKind.i64 xs1 }] }], lo := [spec_IsPositive_o0_1] } = .ok ({ res := D.tup [D.bool false, D.int IntKind.i64 (0 : Int)], passed := [], out := [] }) ⟨[], [], []⟩ ⟨[(r2 != (0 : Int)) = false], [{ f := F.spec_GroupForm, args := [D.agg [D.int IntKind.i64 n, D.immI IntKind.i64 d], D.immI IntKind.i64 w], prows := [], ret := { res := D.tup [D.rsl (600000 : Nat) (0 : Nat) xs1.length, D.int IntKind.i64 r2], passed := [], out := [{ wr := true, c := Cont.ints IntKind.i64 xs1 }] } }], [{ bid := (0 : Nat), body := lb Tryd.f22 (0 : Nat), s := spec_IsPositive_s0 xs1 (0 : Nat), out := spec_IsPositive_o0_1 }]⟩ := by kernel_rfl
theorem spec_IsPositive_p2 {n : Int} {d : List Int} {w : List Int} {xs1 : List Int} {r2 : Int} (c3 : Runs X F.spec_GroupForm [D.agg [D.int IntKind.i64 n, D.immI IntKind.i64 d], D.immI IntKind.i64 w] [] { res := D.tup [D.rsl (600000 : Nat) (0 : Nat) xs1.length, D.int IntKind.i64 r2], passed := [], out := [{ wr := true, c := Cont.ints IntKind.i64 xs1 }] }) (h5 : r2 = (0 : Int)) (l11 : WpL X F.spec_IsPositive (0 : Nat) (lb Tryd.f22 (0 : Nat)) (spec_IsPositive_s0 xs1 (0 : Nat)).st fun o => o = spec_IsPositive_o0_1.out) : Runs X F.spec_IsPositive [D.agg [D.int IntKind.i64 n, D.immI IntKind.i64 d], D.immI IntKind.i64 w] [] { res := D.tup [D.bool false, D.int IntKind.i64 (0 : Int)], passed := [], out := [] } :=
  Runs.path (by kernel_rfl) spec_IsPositive_ft (spec_IsPositive_p2_e n d w xs1 r2) (AllP.c (bne_eq_false_iff_eq.2 h5) trivial) (AllC.c c3 trivial) (AllL.c l11 trivial)
theorem spec_IsPositive_p3_e (n : Int) (d : List Int) (w : List Int) (xs1 : List Int) (r2 : Int) : fnV X F.spec_IsPositive Tryd.f22 [D.agg [D.int IntKind.i64 n, D.immI IntKind.i64 d], D.immI IntKind.i64 w] [] { ds := [false], rs := [{ res := D.tup [D.rsl (600000 : Nat) (0 : Nat) xs1.length, D.int IntKind.i64 r2], passed := [], out := [{ wr := true, c := Cont.ints IntKind.i64 xs1 }] }], lo := [spec_IsPositive_o0_2] } = .ok ({ res := D.tup [D.bool true, D.int IntKind.i64 (0 : Int)], passed := [], out := [] }) ⟨[], [], []⟩ ⟨[(r2 != (0 : Int)) = false], [{ f := F.spec_GroupForm, args := [D.agg [D.int IntKind.i64 n, D.immI IntKind.i64 d], D.immI IntKind.i64 w], prows := [], ret := { res := D.tup [D.rsl (600000 : Nat) (0 : Nat) xs1.length, D.int IntKind.i64 r2], passed := [], out := [{ wr := true, c := Cont.ints IntKind.i64 xs1 }] } }], [{ bid := (0 : Nat), body := lb Tryd.f22 (0 : Nat), s := spec_IsPositive_s0 xs1 (0 : Nat), out := spec_IsPositive_o0_2 }]⟩ := by kernel_rfl
theorem spec_IsPositive_p3 {n : Int} {d : List Int} {w : List Int} {xs1 : List Int} {r2 : Int} (c3 : Runs X F.spec_GroupForm [D.agg [D.int IntKind.i64 n, D.immI IntKind.i64 d], D.immI IntKind.i64 w] [] { res := D.tup [D.rsl (600000 : Nat) (0 : Nat) xs1.length, D.int IntKind.i64 r2], passed := [], out := [{ wr := true, c := Cont.ints IntKind.i64 xs1 }] }) (h5 : r2 = (0 : Int)) (l12 : WpL X F.spec_IsPositive (0 : Nat) (lb Tryd.f22 (0 : Nat)) (spec_IsPositive_s0 xs1 (0 : Nat)).st fun o => o = spec_IsPositive_o0_2.out) : Runs X F.spec_IsPositive [D.agg [D.int IntKind.i64 n, D.immI IntKind.i64 d], D.immI IntKind.i64 w] [] { res := D.tup [D.bool true, D.int IntKind.i64 (0 : Int)], passed := [], out := [] } :=
  Runs.path (by kernel_rfl) spec_IsPositive_ft (spec_IsPositive_p3_e n d w xs1 r2) (AllP.c (bne_eq_false_iff_eq.2 h5) trivial) (AllC.c c3 trivial) (AllL.c l12 trivial)
-- loop.example/g01094/impl.IsPositive
theorem impl_IsPositive_ft : X.ft F.impl_IsPositive = some Tryd.f23 := by kernel_rfl
theorem impl_IsPositive_p1_e (n : Int) (d : List Int) (w : List Int) (r1 : Int) : fnV X F.impl_IsPositive Tryd.f23 [D.agg [D.int IntKind.i64 n, D.immI IntKind.i64 d], D.immI IntKind.i64 w] [] { ds := [true, true], rs := [{ res := D.int IntKind.i64 r1, passed := [], out := [] }], lo := [] } = .ok ({ res := D.tup [D.bool false, D.int IntKind.i64 r1], passed := [], out := [] }) ⟨[], [], []⟩ ⟨[(1 : Nat) ≤ (1 : Nat), (0 : Nat) = (0 : Nat) ∧ (1 : Nat) = (1 : Nat), (r1 != (0 : Int)) = true], [{ f := F.impl_checkSigned, args := [D.agg [D.int IntKind.i64 n, D.immI IntKind.i64 d], D.imm2 IntKind.i64 [w]], prows := [], ret := { res := D.int IntKind.i64 r1, passed := [], out := [] } }], []⟩ := by kernel_rfl
theorem impl_IsPositive_p1 {n : Int} {d : List Int} {w : List Int} {r1 : Int} (c2 : Runs X F.impl_checkSigned [D.agg [D.int IntKind.i64 n, D.immI IntKind.i64 d], D.imm2 IntKind.i64 [w]] [] { res := D.int IntKind.i64 r1, passed := [], out := [] }) (h3 : ¬r1 = (0 : Int)) : Runs X F.impl_IsPositive [D.agg [D.int IntKind.i64 n, D.immI IntKind.i64 d], D.immI IntKind.i64 w] [] { res := D.tup [D.bool false, D.int IntKind.i64 r1], passed := [], out := [] } :=
  Runs.path (by kernel_rfl) impl_IsPositive_ft (impl_IsPositive_p1_e n d w r1) (AllP.c (by omega) (AllP.c ⟨(by omega), (by first | omega | (simp; done) | (simp only [List.length_take, List.length_drop, List.length_append, List.length_set] at *; omega))⟩ (AllP.c (bne_iff_ne.2 h3) trivial))) (AllC.c c2 trivial) trivial
theorem impl_IsPositive_p2_e (n : Int) (d : List Int) (w : List Int) (r1 : Int) (xs5 : List Int) (xs7 : List Int) (xs9 : List Int) (b11 : Bool) : fnV X F.impl_IsPositive Tryd.f23 [D.agg [D.int IntKind.i64 n, D.immI IntKind.i64 d], D.immI IntKind.i64 w] [] { ds := [true, false, true, true, true], rs := [{ res := D.int IntKind.i64 r1, passed := [], out := [] }, { res := D.rsl (600000 : Nat) (0 : Nat) xs5.length, passed := [], out := [{ wr := true, c := Cont.ints IntKind.i64 xs5 }] }, { res := D.rsl (600000 : Nat) (0 : Nat) xs7.length, passed := [], out := [{ wr := true, c := Cont.ints IntKind.i64 xs7 }] }, { res := D.rsl (600000 : Nat) (0 : Nat) xs9.length, passed := [], out := [{ wr := true, c := Cont.ints IntKind.i64 xs9 }] }, { res := D.bool b11, passed := [], out := [] }], lo := [] } = .ok ({ res := D.tup [D.bool !b11, D.int IntKind.i64 (0 : Int)], passed := [], out := [] }) ⟨[], [], []⟩ ⟨[(1 : Nat) ≤ (1 : Nat), (0 : Nat) = (0 : Nat) ∧ (1 : Nat) = (1 : Nat), (r1 != (0 : Int)) = false, (0 : Nat) + xs5.length ≤ xs5.length, (0 : Nat) = (0 : Nat) ∧ xs5.length = xs5.length, (0 : Nat) + xs7.length ≤ xs7.length, (0 : Nat) = (0 : Nat) ∧ xs7.length = xs7.length, (0 : Nat) + xs9.length ≤ xs9.length, (0 : Nat) = (0 : Nat) ∧ xs9.length = xs9.length], [{ f := F.impl_checkSigned, args := [D.agg [D.int IntKind.i64 n, D.immI IntKind.i64 d], D.imm2 IntKind.i64 [w]], prows := [], ret := { res := D.int IntKind.i64 r1, passed := [], out := [] } }, { f := F.impl_signedTies, args := [D.agg [D.int IntKind.i64 n, D.immI IntKind.i64 d]], prows := [], ret := { res := D.rsl (600000 : Nat) (0 : Nat) xs5.length, passed := [], out := [{ wr := true, c := Cont.ints IntKind.i64 xs5 }] } }, { f := F.impl_codesOf, args := [D.immI IntKind.i64 w], prows := [], ret := { res := D.rsl (600000 : Nat) (0 : Nat) xs7.length, passed := [], out := [{ wr := true, c := Cont.ints IntKind.i64 xs7 }] } }, { f := F.impl_ties_group, args := [D.immI IntKind.i64 xs5, D.immI IntKind.i64 xs7], prows := [], ret := { res := D.rsl (600000 : Nat) (0 : Nat) xs9.length, passed := [], out := [{ wr := true, c := Cont.ints IntKind.i64 xs9 }] } }, { f := F.slices_ContainsFuncSint64int64, args := [D.immI IntKind.i64 xs9, D.fn F.impl_IsPositivek1 []], prows := [], ret := { res := D.bool b11, passed := [], out := [] } }], []⟩ := by kernel_rfl
theorem impl_IsPositive_p2 {n : Int} {d : List Int} {w : List Int} {r1 : Int} (c2 : Runs X F.impl_checkSigned [D.agg [D.int IntKind.i64 n, D.immI IntKind.i64 d], D.imm2 IntKind.i64 [w]] [] { res := D.int IntKind.i64 r1, passed := [], out := [] }) (h4 : r1 = (0 : Int)) {xs5 : List Int} (c6 : Runs X F.impl_signedTies [D.agg [D.int IntKind.i64 n, D.immI IntKind.i64 d]] [] { res := D.rsl (600000 : Nat) (0 : Nat) xs5.length, passed := [], out := [{ wr := true, c := Cont.ints IntKind.i64 xs5 }] }) {xs7 : List Int} (c8 : Runs X F.impl_codesOf [D.immI IntKind.i64 w] [] { res := D.rsl (600000 : Nat) (0 : Nat) xs7.length, passed := [], out := [{ wr := true, c := Cont.ints IntKind.i64 xs7 }] }) {xs9 : List Int} (c10 : Runs X F.impl_ties_group [D.immI IntKind.i64 xs5, D.immI IntKind.i64 xs7] [] { res := D.rsl (600000 : Nat) (0 : Nat) xs9.length, passed := [], out := [{ wr := true, c := Cont.ints IntKind.i64 xs9 }] }) {b11 : Bool} (c12 : Runs X F.slices_ContainsFuncSint64int64 [D.immI IntKind.i64 xs9, D.fn F.impl_IsPositivek1 []] [] { res := D.bool b11, passed := [], out := [] }) : Runs X F.impl_IsPositive [D.agg [D.int IntKind.i64 n, D.immI IntKind.i64 d], D.immI IntKind.i64 w] [] { res := D.tup [D.bool !b11, D.int IntKind.i64 (0 : Int)], passed := [], out := [] } :=
  Runs.path (by kernel_rfl) impl_IsPositive_ft (impl_IsPositive_p2_e n d w r1 xs5 xs7 xs9 b11) (AllP.c (by omega) (AllP.c ⟨(by omega), (by first | omega | (simp; done) | (simp only [List.length_take, List.length_drop, List.length_append, List.length_set] at *; omega))⟩ (AllP.c (bne_eq_false_iff_eq.2 h4) (AllP.c (by first | omega | (simp; done) | (simp only [List.length_take, List.length_drop, List.length_append, List.length_set] at *; omega)) (AllP.c ⟨(by first | omega | (simp; done) | (simp only [List.length_take, List.length_drop, List.length_append, List.length_set] at *; omega)), (by omega)⟩ (AllP.c (by first | omega | (simp; done) | (simp only [List.length_take, List.length_drop, List.length_append, List.length_set] at *; omega)) (AllP.c ⟨(by first | omega | (simp; done) | (simp only [List.length_take, List.length_drop, List.length_append, List.length_set] at *; omega)), (by omega)⟩ (AllP.c (by first | omega | (simp; done) | (simp only [List.length_take, List.length_drop, List.length_append, List.length_set] at *; omega)) (AllP.c ⟨(by first | omega | (simp; done) | (simp only [List.length_take, List.length_drop, List.length_append, List.length_set] at *; omega)), (by omega)⟩ trivial))))))))) (AllC.c c2 (AllC.c c6 (AllC.c c8 (AllC.c c10 (AllC.c c12 trivial))))) trivial
-- slices.ContainsFunc[[]int64,int64]
theorem slices_ContainsFuncSint64int64_pos_ft : X.ft F.slices_ContainsFuncSint64int64 = some Tryd.f60 := by kernel_rfl
theorem slices_ContainsFuncSint64int64_pos_p1_e (w : List Int) (r1 : Int) : fnV X F.slices_ContainsFuncSint64int64 Tryd.f60 [D.immI IntKind.i64 w, D.fn F.impl_IsPositivek1 []] [] { ds := [], rs := [{ res := D.int IntKind.i64 r1, passed := [], out := [] }], lo := [] } = .ok ({ res := D.bool (decide (r1 ≥ (0 : Int))), passed := [], out := [] }) ⟨[], [], []⟩ ⟨[], [{ f := F.slices_IndexFuncSint64int64, args := [D.immI IntKind.i64 w, D.fn F.impl_IsPositivek1 []], prows := [], ret := { res := D.int IntKind.i64 r1, passed := [], out := [] } }], []⟩ := by kernel_rfl
theorem slices_ContainsFuncSint64int64_pos_p1 {w : List Int} {r1 : Int} (c2 : Runs X F.slices_IndexFuncSint64int64 [D.immI IntKind.i64 w, D.fn F.impl_IsPositivek1 []] [] { res := D.int IntKind.i64 r1, passed := [], out := [] }) : Runs X F.slices_ContainsFuncSint64int64 [D.immI IntKind.i64 w, D.fn F.impl_IsPositivek1 []] [] { res := D.bool (decide (r1 ≥ (0 : Int))), passed := [], out := [] } :=
  Runs.path (by kernel_rfl) slices_ContainsFuncSint64int64_pos_ft (slices_ContainsFuncSint64int64_pos_p1_e w r1) trivial (AllC.c c2 trivial) trivial
-- slices.IndexFunc[[]int64,int64]
theorem slices_IndexFuncSint64int64_pos_ft : X.ft F.slices_IndexFuncSint64int64 = some Tryd.f99 := by kernel_rfl
def slices_IndexFuncSint64int64_pos_s0 (w : List Int) (t8a : Nat) : LSt := { env := mkE (19 : Nat) (0 : Nat) [((0 : Nat), D.immI IntKind.i64 w), ((1 : Nat), D.fn F.impl_IsPositivek1 []), ((7 : Nat), D.int IntKind.i64 (↑w.length : Int)), ((8 : Nat), D.int IntKind.i64 (↑t8a : Int))], rl := [] }
def slices_IndexFuncSint64int64_pos_o0_1 (t4az : Nat) : OutL := OutL.ret { env := mkE (19 : Nat) (0 : Nat) [((4 : Nat), D.int IntKind.i64 (↑t4az : Int))], rl := [] }
def slices_IndexFuncSint64int64_pos_o0_2 : OutL := OutL.exit (0 : Nat) { env := mkE (19 : Nat) (0 : Nat) [], rl := [] }
theorem slices_IndexFuncSint64int64_pos_r0_1_e (w : List Int) (t8a : Nat) (b2 : Bool) : roundV X F.slices_IndexFuncSint64int64 (0 : Nat) (lb Tryd.f99 (0 : Nat)) (slices_IndexFuncSint64int64_pos_s0 w t8a) { ds := [true, true], rs := [{ res := D.bool b2, passed := [], out := [] }], lo := [] } = .ok (slices_IndexFuncSint64int64_pos_o0_1 t8a) ⟨[], [], []⟩ ⟨[decide ((↑t8a : Int) < (↑w.length : Int)) = true, (0 : Int) ≤ (↑t8a : Int) ∧ (↑t8a : Int) < (↑w.length : Int), b2 = true], [{ f := F.impl_IsPositivek1, args := [D.int IntKind.i64 (w.getD t8a (0 : Int))], prows := [], ret := { res := D.bool b2, passed := [], out := [] } }], []⟩ := by kernel_rfl
theorem slices_IndexFuncSint64int64_pos_r0_1 {Q : Out → Prop} {w : List Int} {t8a : Nat} (h1 : (↑t8a : Int) < (↑w.length : Int)) {b2 : Bool} (c3 : Runs X F.impl_IsPositivek1 [D.int IntKind.i64 (w.getD t8a (0 : Int))] [] { res := D.bool b2, passed := [], out := [] }) (h4 : b2 = true) (hq : Q (slices_IndexFuncSint64int64_pos_o0_1 t8a).out) : WpL X F.slices_IndexFuncSint64int64 0 (lb Tryd.f99 (0 : Nat)) (slices_IndexFuncSint64int64_pos_s0 w t8a).st Q :=
  roundV_path (slices_IndexFuncSint64int64_pos_r0_1_e w t8a b2) (AllP.c (decide_eq_true h1) (AllP.c ⟨(by omega), h1⟩ (AllP.c h4 trivial))) (AllC.c c3 trivial) trivial hq
theorem slices_IndexFuncSint64int64_pos_r0_2_e (w : List Int) (t8a : Nat) (b2 : Bool) : roundV X F.slices_IndexFuncSint64int64 (0 : Nat) (lb Tryd.f99 (0 : Nat)) (slices_IndexFuncSint64int64_pos_s0 w t8a) { ds := [true, false], rs := [{ res := D.bool b2, passed := [], out := [] }], lo := [] } = .ok (OutL.normal (slices_IndexFuncSint64int64_pos_s0 w (t8a + (1 : Nat)))) ⟨[], [], []⟩ ⟨[decide ((↑t8a : Int) < (↑w.length : Int)) = true, (0 : Int) ≤ (↑t8a : Int) ∧ (↑t8a : Int) < (↑w.length : Int), b2 = false, inR ((↑t8a : Int) + (1 : Int))], [{ f := F.impl_IsPositivek1, args := [D.int IntKind.i64 (w.getD t8a (0 : Int))], prows := [], ret := { res := D.bool b2, passed := [], out := [] } }], []⟩ := by kernel_rfl
theorem slices_IndexFuncSint64int64_pos_r0_2 {Q : Out → Prop} {w : List Int} {t8a : Nat} (h1 : (↑t8a : Int) < (↑w.length : Int)) {b2 : Bool} (c3 : Runs X F.impl_IsPositivek1 [D.int IntKind.i64 (w.getD t8a (0 : Int))] [] { res := D.bool b2, passed := [], out := [] }) (h5 : b2 = false) (h6 : (↑t8a : Int) + (1 : Int) ≤ (9223372036854775807 : Int)) (hq : WpL X F.slices_IndexFuncSint64int64 0 (lb Tryd.f99 (0 : Nat)) (slices_IndexFuncSint64int64_pos_s0 w (t8a + (1 : Nat))).st Q) : WpL X F.slices_IndexFuncSint64int64 0 (lb Tryd.f99 (0 : Nat)) (slices_IndexFuncSint64int64_pos_s0 w t8a).st Q :=
  roundV_path (slices_IndexFuncSint64int64_pos_r0_2_e w t8a b2) (AllP.c (decide_eq_true h1) (AllP.c ⟨(by omega), h1⟩ (AllP.c h5 (AllP.c ⟨(by omega), h6⟩ trivial)))) (AllC.c c3 trivial) trivial hq
theorem slices_IndexFuncSint64int64_pos_r0_3_e (w : List Int) (t8a : Nat) : roundV X F.slices_IndexFuncSint64int64 (0 : Nat) (lb Tryd.f99 (0 : Nat)) (slices_IndexFuncSint64int64_pos_s0 w t8a) { ds := [false], rs := [], lo := [] } = .ok (slices_IndexFuncSint64int64_pos_o0_2) ⟨[], [], []⟩ ⟨[decide ((↑t8a : Int) < (↑w.length : Int)) = false], [], []⟩ := by kernel_rfl
theorem slices_IndexFuncSint64int64_pos_r0_3 {Q : Out → Prop} {w : List Int} {t8a : Nat} (h7 : ¬(↑t8a : Int) < (↑w.length : Int)) (hq : Q (slices_IndexFuncSint64int64_pos_o0_2).out) : WpL X F.slices_IndexFuncSint64int64 0 (lb Tryd.f99 (0 : Nat)) (slices_IndexFuncSint64int64_pos_s0 w t8a).st Q :=
  roundV_path (slices_IndexFuncSint64int64_pos_r0_3_e w t8a) (AllP.c (decide_eq_false h7) trivial) trivial trivial hq
theorem slices_IndexFuncSint64int64_pos_p1_e (w : List Int) (t4az : Nat) : fnV X F.slices_IndexFuncSint64int64 Tryd.f99 [D.immI IntKind.i64 w, D.fn F.impl_IsPositivek1 []] [] { ds := [], rs := [], lo := [slices_IndexFuncSint64int64_pos_o0_1 t4az] } = .ok ({ res := D.int IntKind.i64 (↑t4az : Int), passed := [], out := [] }) ⟨[], [], []⟩ ⟨[], [], [{ bid := (0 : Nat), body := lb Tryd.f99 (0 : Nat), s := slices_IndexFuncSint64int64_pos_s0 w (0 : Nat), out := slices_IndexFuncSint64int64_pos_o0_1 t4az }]⟩ := by kernel_rfl
theorem slices_IndexFuncSint64int64_pos_p1 {w : List Int} {t4az : Nat} (l8 : WpL X F.slices_IndexFuncSint64int64 (0 : Nat) (lb Tryd.f99 (0 : Nat)) (slices_IndexFuncSint64int64_pos_s0 w (0 : Nat)).st fun o => o = (slices_IndexFuncSint64int64_pos_o0_1 t4az).out) : Runs X F.slices_IndexFuncSint64int64 [D.immI IntKind.i64 w, D.fn F.impl_IsPositivek1 []] [] { res := D.int IntKind.i64 (↑t4az : Int), passed := [], out := [] } :=
  Runs.path (by kernel_rfl) slices_IndexFuncSint64int64_pos_ft (slices_IndexFuncSint64int64_pos_p1_e w t4az) trivial trivial (AllL.c l8 trivial)
theorem slices_IndexFuncSint64int64_pos_p2_e (w : List Int) : fnV X F.slices_IndexFuncSint64int64 Tryd.f99 [D.immI IntKind.i64 w, D.fn F.impl_IsPositivek1 []] [] { ds := [], rs := [], lo := [slices_IndexFuncSint64int64_pos_o0_2] } = .ok ({ res := D.int IntKind.i64 (-1 : Int), passed := [], out := [] }) ⟨[], [], []⟩ ⟨[], [], [{ bid := (0 : Nat), body := lb Tryd.f99 (0 : Nat), s := slices_IndexFuncSint64int64_pos_s0 w (0 : Nat), out := slices_IndexFuncSint64int64_pos_o0_2 }]⟩ := by kernel_rfl
theorem slices_IndexFuncSint64int64_pos_p2 {w : List Int} (l9 : WpL X F.slices_IndexFuncSint64int64 (0 : Nat) (lb Tryd.f99 (0 : Nat)) (slices_IndexFuncSint64int64_pos_s0 w (0 : Nat)).st fun o => o = slices_IndexFuncSint64int64_pos_o0_2.out) : Runs X F.slices_IndexFuncSint64int64 [D.immI IntKind.i64 w, D.fn F.impl_IsPositivek1 []] [] { res := D.int IntKind.i64 (-1 : Int), passed := [], out := [] } :=
  Runs.path (by kernel_rfl) slices_IndexFuncSint64int64_pos_ft (slices_IndexFuncSint64int64_pos_p2_e w) trivial trivial (AllL.c l9 trivial)
-- loop.example/g01094/impl.IsPositive$1
theorem impl_IsPositivek1_ft : X.ft F.impl_IsPositivek1 = some Tryd.f61 := by kernel_rfl
theorem impl_IsPositivek1_p1_e (c : Int) : fnV X F.impl_IsPositivek1 Tryd.f61 [D.int IntKind.i64 c] [] { ds := [], rs := [], lo := [] } = .ok ({ res := D.bool (c.tmod (2 : Int) == (1 : Int)), passed := [], out := [] }) ⟨[], [], []⟩ ⟨[(2 : Int) ≠ (0 : Int)], [], []⟩ := by kernel_rfl
theorem impl_IsPositivek1_p1 {c : Int} : Runs X F.impl_IsPositivek1 [D.int IntKind.i64 c] [] { res := D.bool (c.tmod (2 : Int) == (1 : Int)), passed := [], out := [] } :=
  Runs.path (by kernel_rfl) impl_IsPositivek1_ft (impl_IsPositivek1_p1_e c) (AllP.c (by omega) trivial) trivial trivial
end Go.PR.S

/- Is an element of the group positive: the reference and the implementation answer alike; the law comes to true. -/
set_option linter.unusedVariables false
set_option linter.unusedSimpArgs false
set_option maxRecDepth 20000
namespace Go.PR.S
open Go Go.PR Go.Proofs Gp

def evenC (x : Int) : Bool := !(x.tmod 2 == 1)

theorem first_not {w : List Int} {q : Int → Bool} (hall : ¬ w.all q = true) : ∃ k, k < w.length ∧ q (w.getD k 0) = false ∧ ∀ j, j < k → q (w.getD j 0) = true := by
  have : ∃ k, k < w.length ∧ q (w.getD k 0) = false := by
    rw [← range_all, List.all_eq_true] at hall
    simp only [List.mem_range] at hall
    obtain ⟨k, hk⟩ := Classical.not_forall.1 hall
    obtain ⟨h1, h2⟩ := Classical.not_imp.1 hk
    exact ⟨k, h1, by simpa using h2⟩
  obtain ⟨k, hk⟩ := this
  induction k using Nat.strongRecOn with
  | _ k ih =>
    by_cases h : ∃ j, j < k ∧ q (w.getD j 0) = false
    · obtain ⟨j, hj, hjq⟩ := h; exact ih j hj ⟨by omega, hjq⟩
    · refine ⟨k, hk.1, hk.2, fun j hj => ?_⟩
      cases hh : q (w.getD j 0) with
      | true => rfl
      | false => exact (h ⟨j, hj, hh⟩).elim

theorem run_ContainsPos (w : List Int) (hl : w.length ≤ B40) : Runs X F.slices_ContainsFuncSint64int64 [lD w, .fn F.impl_IsPositivek1 []] [] (boolR (!w.all evenC)) := by
  by_cases hall : w.all evenC = true
  · have hq : ∀ j, j < w.length → evenC (w.getD j 0) = true := fun j hj => by rw [getD_lt hj]; exact List.all_eq_true.1 hall _ (List.getElem_mem hj)
    have h1 : Runs X F.slices_IndexFuncSint64int64 [lD w, .fn F.impl_IsPositivek1 []] [] (intR (-1)) := by
      refine slices_IndexFuncSint64int64_pos_p2 (loop_to (N := w.length) (st := fun i => slices_IndexFuncSint64int64_pos_s0 w i) (fun i hi Q hqq => ?_) (fun Q hqq => ?_))
      · have c1 := impl_IsPositivek1_p1 (c := w.getD i 0)
        have hx := hq i hi
        unfold evenC at hx
        apply slices_IndexFuncSint64int64_pos_r0_2
        case hq => exact hqq
        all_goals first | exact c1 | (simpa using hx) | (unfold B40 at hl; omega)
      · apply slices_IndexFuncSint64int64_pos_r0_3
        case hq => exact hqq
        all_goals (unfold B40 at hl; omega)
    have h2 := slices_ContainsFuncSint64int64_pos_p1 h1
    rw [hall]
    exact h2
  · obtain ⟨k, hk1, hk2, hk3⟩ := first_not hall
    have h1 : Runs X F.slices_IndexFuncSint64int64 [lD w, .fn F.impl_IsPositivek1 []] [] (intR k) := by
      refine slices_IndexFuncSint64int64_pos_p1 (loop_to (N := k) (st := fun i => slices_IndexFuncSint64int64_pos_s0 w i) (fun i hi Q hqq => ?_) (fun Q hqq => ?_))
      · have c1 := impl_IsPositivek1_p1 (c := w.getD i 0)
        have hx := hk3 i hi
        unfold evenC at hx
        apply slices_IndexFuncSint64int64_pos_r0_2
        case hq => exact hqq
        all_goals first | exact c1 | (simpa using hx) | (unfold B40 at hl; omega)
      · have c1 := impl_IsPositivek1_p1 (c := w.getD k 0)
        unfold evenC at hk2
        apply slices_IndexFuncSint64int64_pos_r0_1
        case hq => exact hqq
        all_goals first | exact c1 | (simpa using hk2) | (unfold B40 at hl; omega)
    have h2 := slices_ContainsFuncSint64int64_pos_p1 h1
    have e : (!w.all evenC) = decide ((k : Int) ≥ 0) := by simp at hall ⊢; simpa using hall
    rw [e]
    exact h2

theorem sign_neg {c : Int} (h : 0 ≤ c) : (!decide (sign c < 0)) = evenC c := by
  unfold sign evenC
  have e : c.tmod 2 = c % 2 := Int.tmod_eq_emod_of_nonneg h
  rw [e]
  split
  · rename_i h1
    rw [h1]
    simp only [beq_self_eq_true, Bool.not_true, Bool.not_eq_false', decide_eq_true_eq]
    omega
  · rename_i h1
    rw [Bool.eq_iff_iff]
    simp only [Bool.not_eq_true', decide_eq_false_iff_not, beq_eq_false_iff_ne]
    constructor
    · intro _; exact h1
    · intro _; omega

theorem run_IsPositive (n : Int) (d w : List Int) (hd : d.length ≤ B40) (hw : w.length ≤ B40) :
    ∃ (b : Bool) (r : Int), Runs X F.spec_IsPositive [alD n d, lD w] [] ⟨.tup [.bool b, .int .i64 r], [], []⟩ ∧ Runs X F.impl_IsPositive [alD n d, lD w] [] ⟨.tup [.bool b, .int .i64 r], [], []⟩ := by
  have c1 := run_l09Code n d w w hd hw hw
  rw [sg_twice] at c1
  have c2 : Runs X F.impl_checkSigned [alD n d, .imm2 .i64 [w]] [] (intR (sgCode n d [w])) := run_checkSigned n d [w] hd (by simp [B40]) (by simp [hw])
  by_cases h0 : sgCode n d [w] = 0
  · obtain ⟨N, ha, rfl, hN, hl, hb, hz, hW⟩ := sg_one h0
    have hc : (w.map code).length ≤ 24 := by simpa using hl
    have hg := gnf_le ha hW
    have k1 := run_l09Double ha
    have k2 := run_l09In hb hz hw
    have k3 := run_l09Reduce ha hW (by unfold B40; omega)
    have gW : Wd (2 * N) (gnf ha (w.map code)) := gnf_Wd ha hW
    have k4 := run_l09Out hN gW (by unfold B40; omega)
    have kf := spec_GroupForm_p2 c1 h0 k1 k2 k3 k4
    have k5 := run_signedTies ha
    have k6 := run_codesOf hb hw
    have k7 := run_group ha hW (by unfold B40; omega)
    have k8 := run_ContainsPos (gnf ha (w.map code)) (by unfold B40; omega)
    have ki := impl_IsPositive_p2 c2 h0 k5 k6 k7 k8
    rw [Bool.not_not] at ki
    refine ⟨_, 0, ?_, ki⟩
    generalize hG : gnf ha (w.map code) = G at *
    have e : ((List.range (G.map sign).length).all fun i => !decide ((G.map sign).getD (0 + i) 0 < 0)) = G.all evenC := by
      have e1 : ∀ i, (0 + i) = i := Nat.zero_add
      simp only [e1]
      rw [range_all (l := G.map sign) (q := fun x => !decide (x < 0)), List.all_map]
      rw [Bool.eq_iff_iff, List.all_eq_true, List.all_eq_true]
      constructor
      · intro h x hx; have := h x hx; rw [← sign_neg (gW x hx).1]; exact this
      · intro h x hx; have := h x hx; rw [← sign_neg (gW x hx).1] at this; exact this
    have hlp := loop_all (f := F.spec_IsPositive) (b := 0) (body := lb Tryd.f22 0) (N := (G.map sign).length) (oF := spec_IsPositive_o0_1) (oT := spec_IsPositive_o0_2) (st := fun i => spec_IsPositive_s0 (G.map sign) i)
      (p := fun i => !decide ((G.map sign).getD (0 + i) 0 < 0)) (fun i hi hp Q hq => ?_) (fun i hi hp Q hq => ?_) (fun Q hq => ?_)
    · rw [e] at hlp
      cases hb : G.all evenC with
      | true => rw [hb, if_pos rfl] at hlp; exact spec_IsPositive_p3 kf rfl hlp
      | false => rw [hb, if_neg (by simp)] at hlp; exact spec_IsPositive_p2 kf rfl hlp
    · have hp' : ¬ (G.map sign).getD (0 + i) 0 < 0 := by simpa using hp
      rw [List.length_map] at hi
      apply spec_IsPositive_r0_2
      case hq => exact hq
      all_goals first | exact hp' | (rw [List.length_map]; omega) | omega
    · have hp' : (G.map sign).getD (0 + i) 0 < 0 := by simpa using hp
      apply spec_IsPositive_r0_1
      case hq => exact hq
      all_goals first | exact hp' | omega
    · apply spec_IsPositive_r0_3
      case hq => exact hq
      all_goals omega
  · exact ⟨false, sgCode n d [w], spec_IsPositive_p1 (xs1 := []) (spec_GroupForm_p1 (w := w) c1 h0) h0, impl_IsPositive_p1 c2 h0⟩

theorem run_FnExactIsPositive (n : Int) (d w : List Int) (hd : d.length ≤ 9223372036854775807) : Runs X F.laws_FnExactIsPositive [alD n d, lD w] [] (boolR true) := by
  by_cases hw : w.length ≤ B40
  · have c6 := run_szAlphabet n d hd
    have hw' : ¬ (w.length : Int) > 1048576 := by unfold B40 at hw; omega
    by_cases hdl : d.length ≤ B40
    · rw [if_pos hdl] at c6
      obtain ⟨b, r, cs, ci⟩ := run_IsPositive n d w hdl hw
      have ca := run_toAlphabet n d hdl
      have cw := run_toInt64S w hw
      have ew := run_eqInt64S w w hw
      have ed := run_eqAlphabet n d n d hdl
      rw [decide_eq_true (by trivial)] at ew ed
      apply laws_FnExactIsPositive_p7
      all_goals first | exact hw' | exact c6 | exact ca | exact cw | exact cs | exact ci | exact ew | exact ed | (unfold B40 at hdl; omega) | rfl | skip
    · rw [if_neg hdl] at c6
      exact laws_FnExactIsPositive_p2 hw' c6 (by omega)
  · exact laws_FnExactIsPositive_p1 (by unfold B40 at hw; omega)

end Go.PR.S
