/- Path lemmas (written by Vc.lean). -/
import Derived.Test.YtdheehhnpjkdbaaDoorFwMk
import Derived.Test.YtdheehhnpjkdbaaDoorFwP26
section
/- Path lemmas (written by Vc.lean). -/
set_option linter.unusedVariables false
set_option linter.unusedSimpArgs false
set_option maxRecDepth 20000
open Go Go.PR Go.Proofs Go.PR.S
namespace Go.PR.S
-- loop.example/g01094/spec.l01From
theorem spec_l01From_ft : X.ft F.spec_l01From = some Tryd.f112 := by kernel_rfl
def spec_l01From_s0 (c : List Int) (t4a : Nat) (t1011_2a : Int) : LSt := ⟨mkE (38 : Nat) (0 : Nat) [((0 : Nat), .immI .u8 c), ((3 : Nat), .ptr 1011 0), ((4 : Nat), .int .i64 (↑t4a : Int))], [((1011 : Nat), ⟨true, .var [.immI .u8 c, .int .i64 0, .int .u64 t1011_2a]⟩)]⟩
def spec_l01From_o0_1 (c : List Int) (t1011_2az : Int) : OutL := .exit (0 : Nat) ⟨mkE (38 : Nat) (0 : Nat) [((3 : Nat), .ptr 1011 0)], [((1011 : Nat), ⟨true, .var [.immI .u8 c, .int .i64 0, .int .u64 t1011_2az]⟩)]⟩
theorem spec_l01From_r0_1_e (c : List Int) (t4a : Nat) (t1011_2a : Int) : roundV X F.spec_l01From (0 : Nat) (lb Tryd.f112 (0 : Nat)) (spec_l01From_s0 c t4a t1011_2a) ⟨[true, true, true, true], [], []⟩ = .ok (.normal (spec_l01From_s0 c (t4a + (1 : Nat)) (uadd (uadd (umul t1011_2a (1099511628211 : Int)) (IntKind.u64.wrap (c.getD t4a (0 : Int)))) (11 : Int)))) ⟨[], [], []⟩ ⟨[decide ((↑t4a : Int) < (↑c.length : Int)) = true, decide ((↑t4a : Int) < (↑c.length : Int)) = true, decide ((↑t4a : Int) < (↑c.length : Int)) = true, decide ((↑t4a : Int) < (4096 : Int)) = true, (0 : Int) ≤ (↑t4a : Int) ∧ (↑t4a : Int) < (↑c.length : Int), inR ((↑t4a : Int) + (1 : Int))], [], []⟩ := by kernel_rfl
theorem spec_l01From_r0_1 {Q : Out → Prop} {c : List Int} {t4a : Nat} {t1011_2a : Int} (h1 : (↑t4a : Int) < (↑c.length : Int)) (h2 : (↑t4a : Int) < (4096 : Int)) (hq : WpL X F.spec_l01From 0 (lb Tryd.f112 (0 : Nat)) (spec_l01From_s0 c (t4a + (1 : Nat)) (uadd (uadd (umul t1011_2a (1099511628211 : Int)) (IntKind.u64.wrap (c.getD t4a (0 : Int)))) (11 : Int))).st Q) : WpL X F.spec_l01From 0 (lb Tryd.f112 (0 : Nat)) (spec_l01From_s0 c t4a t1011_2a).st Q :=
  roundV_path (spec_l01From_r0_1_e c t4a t1011_2a) (AllP.c (decide_eq_true h1) (AllP.c (decide_eq_true h1) (AllP.c (decide_eq_true h1) (AllP.c (decide_eq_true h2) (AllP.c ⟨(by omega), h1⟩ (AllP.c ⟨(by omega), (by omega)⟩ trivial)))))) trivial trivial hq
theorem spec_l01From_r0_3_e (c : List Int) (t4a : Nat) (t1011_2a : Int) : roundV X F.spec_l01From (0 : Nat) (lb Tryd.f112 (0 : Nat)) (spec_l01From_s0 c t4a t1011_2a) ⟨[false, false, false, false], [], []⟩ = .ok (spec_l01From_o0_1 c t1011_2a) ⟨[], [], []⟩ ⟨[decide ((↑t4a : Int) < (↑c.length : Int)) = false, decide ((↑t4a : Int) < (↑c.length : Int)) = false, decide ((↑t4a : Int) < (↑c.length : Int)) = false, false = false], [], []⟩ := by kernel_rfl
theorem spec_l01From_r0_3 {Q : Out → Prop} {c : List Int} {t4a : Nat} {t1011_2a : Int} (h4 : ¬(↑t4a : Int) < (↑c.length : Int)) (hq : Q (spec_l01From_o0_1 c t1011_2a).out) : WpL X F.spec_l01From 0 (lb Tryd.f112 (0 : Nat)) (spec_l01From_s0 c t4a t1011_2a).st Q :=
  roundV_path (spec_l01From_r0_3_e c t4a t1011_2a) (AllP.c (decide_eq_false h4) (AllP.c (decide_eq_false h4) (AllP.c (decide_eq_false h4) (AllP.c (by first | omega | (simp; done) | (simp only [List.length_take, List.length_drop, List.length_append, List.length_set] at *; omega)) trivial)))) trivial trivial hq
theorem spec_l01From_p1_e (c : List Int) (t1011_2az : Int) : fnV X F.spec_l01From Tryd.f112 [.immI .u8 c] [] ⟨[], [], [spec_l01From_o0_1 c t1011_2az]⟩ = .ok (⟨.ptr 600000 0, [], [⟨true, .var [.immI .u8 c, .int .i64 0, .int .u64 t1011_2az]⟩]⟩) ⟨[], [], []⟩ ⟨[], [], [⟨(0 : Nat), lb Tryd.f112 (0 : Nat), spec_l01From_s0 c (0 : Nat) (uadd (9341 : Int) (IntKind.u64.wrap (↑c.length : Int))), spec_l01From_o0_1 c t1011_2az⟩]⟩ := by kernel_rfl
theorem spec_l01From_p1 {c : List Int} {t1011_2az : Int} (l5 : WpL X F.spec_l01From (0 : Nat) (lb Tryd.f112 (0 : Nat)) (spec_l01From_s0 c (0 : Nat) (uadd (9341 : Int) (IntKind.u64.wrap (↑c.length : Int)))).st fun o => o = (spec_l01From_o0_1 c t1011_2az).out) : Runs X F.spec_l01From [.immI .u8 c] [] ⟨.ptr 600000 0, [], [⟨true, .var [.immI .u8 c, .int .i64 0, .int .u64 t1011_2az]⟩]⟩ :=
  Runs.path (by kernel_rfl) spec_l01From_ft (spec_l01From_p1_e c t1011_2az) trivial trivial (AllL.c l5 trivial)
-- loop.example/g01094/spec.l01Next
theorem spec_l01Next_ft : X.ft F.spec_l01Next = some Tryd.f79 := by kernel_rfl
theorem spec_l01Next_p1_e (n : Int) (c : List Int) (a h : Int) : fnV X F.spec_l01Next Tryd.f79 [.ptr 500000 0, .int .i64 n] [⟨true, .var [.immI .u8 c, .int .i64 a, .int .u64 h]⟩] ⟨[true], [], []⟩ = .ok (⟨.int .i64 0, [some ⟨true, .var [.immI .u8 c, .int .i64 a, .int .u64 h]⟩], []⟩) ⟨[], [], []⟩ ⟨[decide (n < (1 : Int)) = true], [], []⟩ := by kernel_rfl
theorem spec_l01Next_p1 {n : Int} {c : List Int} {a h : Int} (h1 : n < (1 : Int)) : Runs X F.spec_l01Next [.ptr 500000 0, .int .i64 n] [⟨true, .var [.immI .u8 c, .int .i64 a, .int .u64 h]⟩] ⟨.int .i64 0, [some ⟨true, .var [.immI .u8 c, .int .i64 a, .int .u64 h]⟩], []⟩ :=
  Runs.path (by kernel_rfl) spec_l01Next_ft (spec_l01Next_p1_e n c a h) (AllP.c (decide_eq_true h1) trivial) trivial trivial
theorem spec_l01Next_p2_e (n : Int) (c : List Int) (a h : Int) : fnV X F.spec_l01Next Tryd.f79 [.ptr 500000 0, .int .i64 n] [⟨true, .var [.immI .u8 c, .int .i64 a, .int .u64 h]⟩] ⟨[false, true], [], []⟩ = .ok (⟨.int .i64 ((uand (ushr (uadd (umul h (6364136223846793005 : Int)) (1442695040888963407 : Int)) (33 : Int)) (16777215 : Int) + c.getD a.toNat (0 : Int)).tmod n), [some ⟨true, .var [.immI .u8 c, .int .i64 (a + (1 : Int)), .int .u64 (uadd (umul h (6364136223846793005 : Int)) (1442695040888963407 : Int))]⟩], []⟩) ⟨[], [], []⟩ ⟨[decide (n < (1 : Int)) = false, (0 : Int) ≤ (33 : Int), inR (uand (ushr (uadd (umul h (6364136223846793005 : Int)) (1442695040888963407 : Int)) (33 : Int)) (16777215 : Int)), decide (a < (↑c.length : Int)) = true, (0 : Int) ≤ a ∧ a < (↑c.length : Int), inR (c.getD a.toNat (0 : Int)), inR (uand (ushr (uadd (umul h (6364136223846793005 : Int)) (1442695040888963407 : Int)) (33 : Int)) (16777215 : Int) + c.getD a.toNat (0 : Int)), inR (a + (1 : Int)), n ≠ (0 : Int)], [], []⟩ := by kernel_rfl
theorem spec_l01Next_p2 {n : Int} {c : List Int} {a h : Int} (h2 : ¬n < (1 : Int)) (h3 : (-9223372036854775808 : Int) ≤ uand (ushr (uadd (umul h (6364136223846793005 : Int)) (1442695040888963407 : Int)) (33 : Int)) (16777215 : Int)) (h4 : uand (ushr (uadd (umul h (6364136223846793005 : Int)) (1442695040888963407 : Int)) (33 : Int)) (16777215 : Int) ≤ (9223372036854775807 : Int)) (h5 : a < (↑c.length : Int)) (h6 : (0 : Int) ≤ a) (h7 : (-9223372036854775808 : Int) ≤ c.getD a.toNat (0 : Int)) (h8 : c.getD a.toNat (0 : Int) ≤ (9223372036854775807 : Int)) (h9 : (-9223372036854775808 : Int) ≤ uand (ushr (uadd (umul h (6364136223846793005 : Int)) (1442695040888963407 : Int)) (33 : Int)) (16777215 : Int) + c.getD a.toNat (0 : Int)) (h10 : uand (ushr (uadd (umul h (6364136223846793005 : Int)) (1442695040888963407 : Int)) (33 : Int)) (16777215 : Int) + c.getD a.toNat (0 : Int) ≤ (9223372036854775807 : Int)) (h11 : a + (1 : Int) ≤ (9223372036854775807 : Int)) : Runs X F.spec_l01Next [.ptr 500000 0, .int .i64 n] [⟨true, .var [.immI .u8 c, .int .i64 a, .int .u64 h]⟩] ⟨.int .i64 ((uand (ushr (uadd (umul h (6364136223846793005 : Int)) (1442695040888963407 : Int)) (33 : Int)) (16777215 : Int) + c.getD a.toNat (0 : Int)).tmod n), [some ⟨true, .var [.immI .u8 c, .int .i64 (a + (1 : Int)), .int .u64 (uadd (umul h (6364136223846793005 : Int)) (1442695040888963407 : Int))]⟩], []⟩ :=
  Runs.path (by kernel_rfl) spec_l01Next_ft (spec_l01Next_p2_e n c a h) (AllP.c (decide_eq_false h2) (AllP.c (by omega) (AllP.c ⟨h3, h4⟩ (AllP.c (decide_eq_true h5) (AllP.c ⟨h6, h5⟩ (AllP.c ⟨h7, h8⟩ (AllP.c ⟨h9, h10⟩ (AllP.c ⟨(by omega), h11⟩ (AllP.c (by omega) trivial))))))))) trivial trivial
theorem spec_l01Next_p3_e (n : Int) (c : List Int) (a h : Int) : fnV X F.spec_l01Next Tryd.f79 [.ptr 500000 0, .int .i64 n] [⟨true, .var [.immI .u8 c, .int .i64 a, .int .u64 h]⟩] ⟨[false, false], [], []⟩ = .ok (⟨.int .i64 ((uand (ushr (uadd (umul h (6364136223846793005 : Int)) (1442695040888963407 : Int)) (33 : Int)) (16777215 : Int)).tmod n), [some ⟨true, .var [.immI .u8 c, .int .i64 a, .int .u64 (uadd (umul h (6364136223846793005 : Int)) (1442695040888963407 : Int))]⟩], []⟩) ⟨[], [], []⟩ ⟨[decide (n < (1 : Int)) = false, (0 : Int) ≤ (33 : Int), inR (uand (ushr (uadd (umul h (6364136223846793005 : Int)) (1442695040888963407 : Int)) (33 : Int)) (16777215 : Int)), decide (a < (↑c.length : Int)) = false, n ≠ (0 : Int)], [], []⟩ := by kernel_rfl
theorem spec_l01Next_p3 {n : Int} {c : List Int} {a h : Int} (h2 : ¬n < (1 : Int)) (h3 : (-9223372036854775808 : Int) ≤ uand (ushr (uadd (umul h (6364136223846793005 : Int)) (1442695040888963407 : Int)) (33 : Int)) (16777215 : Int)) (h4 : uand (ushr (uadd (umul h (6364136223846793005 : Int)) (1442695040888963407 : Int)) (33 : Int)) (16777215 : Int) ≤ (9223372036854775807 : Int)) (h12 : ¬a < (↑c.length : Int)) : Runs X F.spec_l01Next [.ptr 500000 0, .int .i64 n] [⟨true, .var [.immI .u8 c, .int .i64 a, .int .u64 h]⟩] ⟨.int .i64 ((uand (ushr (uadd (umul h (6364136223846793005 : Int)) (1442695040888963407 : Int)) (33 : Int)) (16777215 : Int)).tmod n), [some ⟨true, .var [.immI .u8 c, .int .i64 a, .int .u64 (uadd (umul h (6364136223846793005 : Int)) (1442695040888963407 : Int))]⟩], []⟩ :=
  Runs.path (by kernel_rfl) spec_l01Next_ft (spec_l01Next_p3_e n c a h) (AllP.c (decide_eq_false h2) (AllP.c (by omega) (AllP.c ⟨h3, h4⟩ (AllP.c (decide_eq_false h12) (AllP.c (by omega) trivial))))) trivial trivial
-- loop.example/g01094/spec.l01Pick
theorem spec_l01Pick_ft : X.ft F.spec_l01Pick = some Tryd.f80 := by kernel_rfl
theorem spec_l01Pick_p1_e (ys c : List Int) (a h r1 : Int) (c2 : List Int) (a3 h4 : Int) : fnV X F.spec_l01Pick Tryd.f80 [.ptr 500000 0, .rsl 500001 0 ys.length] [⟨true, .var [.immI .u8 c, .int .i64 a, .int .u64 h]⟩, ⟨true, .ints .i64 ys⟩] ⟨[], [⟨.int .i64 r1, [some ⟨true, .var [.immI .u8 c2, .int .i64 a3, .int .u64 h4]⟩], []⟩], []⟩ = .ok (⟨.int .i64 (ys.getD ((0 : Nat) + r1.toNat) (0 : Int)), [some ⟨true, .var [.immI .u8 c2, .int .i64 a3, .int .u64 h4]⟩, some ⟨true, .ints .i64 ys⟩], []⟩) ⟨[], [], []⟩ ⟨[(0 : Int) ≤ r1 ∧ r1 < (↑ys.length : Int), (0 : Nat) + r1.toNat < ys.length], [⟨F.spec_l01Next, [.ptr 500000 0, .int .i64 (↑ys.length : Int)], [⟨true, .var [.immI .u8 c, .int .i64 a, .int .u64 h]⟩], ⟨.int .i64 r1, [some ⟨true, .var [.immI .u8 c2, .int .i64 a3, .int .u64 h4]⟩], []⟩⟩], []⟩ := by kernel_rfl
theorem spec_l01Pick_p1 {ys c : List Int} {a h r1 : Int} {c2 : List Int} {a3 h4 : Int} (c5 : Runs X F.spec_l01Next [.ptr 500000 0, .int .i64 (↑ys.length : Int)] [⟨true, .var [.immI .u8 c, .int .i64 a, .int .u64 h]⟩] ⟨.int .i64 r1, [some ⟨true, .var [.immI .u8 c2, .int .i64 a3, .int .u64 h4]⟩], []⟩) (h6 : (0 : Int) ≤ r1) (h7 : r1 < (↑ys.length : Int)) : Runs X F.spec_l01Pick [.ptr 500000 0, .rsl 500001 0 ys.length] [⟨true, .var [.immI .u8 c, .int .i64 a, .int .u64 h]⟩, ⟨true, .ints .i64 ys⟩] ⟨.int .i64 (ys.getD ((0 : Nat) + r1.toNat) (0 : Int)), [some ⟨true, .var [.immI .u8 c2, .int .i64 a3, .int .u64 h4]⟩, some ⟨true, .ints .i64 ys⟩], []⟩ :=
  Runs.path (by kernel_rfl) spec_l01Pick_ft (spec_l01Pick_p1_e ys c a h r1 c2 a3 h4) (AllP.c ⟨h6, h7⟩ (AllP.c (by omega) trivial)) (AllC.c c5 trivial) trivial
-- loop.example/g01094/spec.l02Free
theorem spec_l02Free_ft : X.ft F.spec_l02Free = some Tryd.f130 := by kernel_rfl
def spec_l02Free_s0 (n : Int) (t4a : Nat) (r2003001a : List Int) : LSt := ⟨mkE (21 : Nat) (0 : Nat) [((0 : Nat), .int .i64 n), ((2 : Nat), .ptr 1002 0), ((3 : Nat), .ptr 1003 0), ((4 : Nat), .int .i64 (↑t4a : Int))], [((1002 : Nat), ⟨true, .var [.int .i64 0, .nil NK.unk]⟩), ((1003 : Nat), ⟨true, .var [.int .i64 n, .rsl 2003001 0 r2003001a.length]⟩), ((2003001 : Nat), ⟨true, .ints .i64 r2003001a⟩)]⟩
def spec_l02Free_o0_1 (n : Int) (r2003001az : List Int) : OutL := .exit (0 : Nat) ⟨mkE (21 : Nat) (0 : Nat) [((2 : Nat), .ptr 1002 0), ((3 : Nat), .ptr 1003 0)], [((1002 : Nat), ⟨true, .var [.int .i64 0, .nil NK.unk]⟩), ((1003 : Nat), ⟨true, .var [.int .i64 n, .rsl 2003001 0 r2003001az.length]⟩), ((2003001 : Nat), ⟨true, .ints .i64 r2003001az⟩)]⟩
theorem spec_l02Free_r0_1_e (n : Int) (t4a : Nat) (r2003001a : List Int) (r2 : Int) : roundV X F.spec_l02Free (0 : Nat) (lb Tryd.f130 (0 : Nat)) (spec_l02Free_s0 n t4a r2003001a) ⟨[true, true, true, true], [⟨.int .i64 r2, [], []⟩], []⟩ = .ok (.normal (spec_l02Free_s0 n (t4a + (1 : Nat)) (r2003001a ++ [r2]))) ⟨[], [], []⟩ ⟨[decide ((↑t4a : Int) < n) = true, (1 : Nat) ≤ (1 : Nat), (0 : Nat) = (0 : Nat) ∧ (1 : Nat) = (1 : Nat), (0 : Nat) + r2003001a.length = r2003001a.length ∧ r2003001a.length + (1 : Nat) ≤ (1099511627776 : Nat), (0 : Nat) = (0 : Nat) ∧ r2003001a.length = r2003001a.length, inR ((↑t4a : Int) + (1 : Int))], [⟨F.spec_l01One, [.int .i64 (↑t4a : Int)], [], ⟨.int .i64 r2, [], []⟩⟩], []⟩ := by kernel_rfl
theorem spec_l02Free_r0_1 {Q : Out → Prop} {n : Int} {t4a : Nat} {r2003001a : List Int} (h1 : (↑t4a : Int) < n) {r2 : Int} (c3 : Runs X F.spec_l01One [.int .i64 (↑t4a : Int)] [] ⟨.int .i64 r2, [], []⟩) (h4 : r2003001a.length + (1 : Nat) ≤ (1099511627776 : Nat)) (h5 : (↑t4a : Int) + (1 : Int) ≤ (9223372036854775807 : Int)) (hq : WpL X F.spec_l02Free 0 (lb Tryd.f130 (0 : Nat)) (spec_l02Free_s0 n (t4a + (1 : Nat)) (r2003001a ++ [r2])).st Q) : WpL X F.spec_l02Free 0 (lb Tryd.f130 (0 : Nat)) (spec_l02Free_s0 n t4a r2003001a).st Q :=
  roundV_path (spec_l02Free_r0_1_e n t4a r2003001a r2) (AllP.c (decide_eq_true h1) (AllP.c (by omega) (AllP.c ⟨(by omega), (by first | omega | (simp; done) | (simp only [List.length_take, List.length_drop, List.length_append, List.length_set] at *; omega))⟩ (AllP.c ⟨(by first | omega | (simp; done) | (simp only [List.length_take, List.length_drop, List.length_append, List.length_set] at *; omega)), h4⟩ (AllP.c ⟨(by first | omega | (simp; done) | (simp only [List.length_take, List.length_drop, List.length_append, List.length_set] at *; omega)), (by omega)⟩ (AllP.c ⟨(by omega), h5⟩ trivial)))))) (AllC.c c3 trivial) trivial hq
theorem spec_l02Free_r0_2_e (n : Int) (t4a : Nat) (r2003001a : List Int) : roundV X F.spec_l02Free (0 : Nat) (lb Tryd.f130 (0 : Nat)) (spec_l02Free_s0 n t4a r2003001a) ⟨[false], [], []⟩ = .ok (spec_l02Free_o0_1 n r2003001a) ⟨[], [], []⟩ ⟨[decide ((↑t4a : Int) < n) = false], [], []⟩ := by kernel_rfl
theorem spec_l02Free_r0_2 {Q : Out → Prop} {n : Int} {t4a : Nat} {r2003001a : List Int} (h6 : ¬(↑t4a : Int) < n) (hq : Q (spec_l02Free_o0_1 n r2003001a).out) : WpL X F.spec_l02Free 0 (lb Tryd.f130 (0 : Nat)) (spec_l02Free_s0 n t4a r2003001a).st Q :=
  roundV_path (spec_l02Free_r0_2_e n t4a r2003001a) (AllP.c (decide_eq_false h6) trivial) trivial trivial hq
theorem spec_l02Free_p1_e (n : Int) (r2003001az : List Int) : fnV X F.spec_l02Free Tryd.f130 [.int .i64 n] [] ⟨[], [], [spec_l02Free_o0_1 n r2003001az]⟩ = .ok (⟨.agg [.int .i64 n, .rsl 600000 0 r2003001az.length], [], [⟨true, .ints .i64 r2003001az⟩]⟩) ⟨[], [], []⟩ ⟨[], [], [⟨(0 : Nat), lb Tryd.f130 (0 : Nat), spec_l02Free_s0 n (0 : Nat) [], spec_l02Free_o0_1 n r2003001az⟩]⟩ := by kernel_rfl
theorem spec_l02Free_p1 {n : Int} {r2003001az : List Int} (l7 : WpL X F.spec_l02Free (0 : Nat) (lb Tryd.f130 (0 : Nat)) (spec_l02Free_s0 n (0 : Nat) []).st fun o => o = (spec_l02Free_o0_1 n r2003001az).out) : Runs X F.spec_l02Free [.int .i64 n] [] ⟨.agg [.int .i64 n, .rsl 600000 0 r2003001az.length], [], [⟨true, .ints .i64 r2003001az⟩]⟩ :=
  Runs.path (by kernel_rfl) spec_l02Free_ft (spec_l02Free_p1_e n r2003001az) trivial trivial (AllL.c l7 trivial)
-- loop.example/g01094/spec.l02Join
theorem spec_l02Join_ft : X.ft F.spec_l02Join = some Tryd.f131 := by kernel_rfl
theorem spec_l02Join_p1_e (n : Int) (xs : List Int) (x y : Int) (r3 r7 : Int) : fnV X F.spec_l02Join Tryd.f131 [.agg [.int .i64 n, .rsl 500000 0 xs.length], .int .i64 x, .int .i64 y] [⟨true, .ints .i64 xs⟩] ⟨[], [⟨.int .i64 r3, [], []⟩, ⟨.int .i64 r7, [], []⟩], []⟩ = .ok (⟨.tup [], [some ⟨true, .ints .i64 ((xs.set ((0 : Nat) + x.toNat) (ior (xs.getD ((0 : Nat) + x.toNat) (0 : Int)) r3)).set ((0 : Nat) + y.toNat) (ior ((xs.set ((0 : Nat) + x.toNat) (ior (xs.getD ((0 : Nat) + x.toNat) (0 : Int)) r3)).getD ((0 : Nat) + y.toNat) (0 : Int)) r7))⟩], []⟩) ⟨[], [], []⟩ ⟨[(0 : Int) ≤ x ∧ x < (↑xs.length : Int), (0 : Nat) + x.toNat < xs.length, (0 : Int) ≤ x ∧ x < (↑xs.length : Int), (0 : Nat) + x.toNat < xs.length, (0 : Int) ≤ y ∧ y < (↑xs.length : Int), (0 : Nat) + y.toNat < (xs.set ((0 : Nat) + x.toNat) (ior (xs.getD ((0 : Nat) + x.toNat) (0 : Int)) r3)).length, (0 : Int) ≤ y ∧ y < (↑xs.length : Int), (0 : Nat) + y.toNat < (xs.set ((0 : Nat) + x.toNat) (ior (xs.getD ((0 : Nat) + x.toNat) (0 : Int)) r3)).length], [⟨F.spec_l01One, [.int .i64 y], [], ⟨.int .i64 r3, [], []⟩⟩, ⟨F.spec_l01One, [.int .i64 x], [], ⟨.int .i64 r7, [], []⟩⟩], []⟩ := by kernel_rfl
theorem spec_l02Join_p1 {n : Int} {xs : List Int} {x y : Int} (h1 : (0 : Int) ≤ x) (h2 : x < (↑xs.length : Int)) {r3 : Int} (c4 : Runs X F.spec_l01One [.int .i64 y] [] ⟨.int .i64 r3, [], []⟩) (h5 : (0 : Int) ≤ y) (h6 : y < (↑xs.length : Int)) {r7 : Int} (c8 : Runs X F.spec_l01One [.int .i64 x] [] ⟨.int .i64 r7, [], []⟩) : Runs X F.spec_l02Join [.agg [.int .i64 n, .rsl 500000 0 xs.length], .int .i64 x, .int .i64 y] [⟨true, .ints .i64 xs⟩] ⟨.tup [], [some ⟨true, .ints .i64 ((xs.set ((0 : Nat) + x.toNat) (ior (xs.getD ((0 : Nat) + x.toNat) (0 : Int)) r3)).set ((0 : Nat) + y.toNat) (ior ((xs.set ((0 : Nat) + x.toNat) (ior (xs.getD ((0 : Nat) + x.toNat) (0 : Int)) r3)).getD ((0 : Nat) + y.toNat) (0 : Int)) r7))⟩], []⟩ :=
  Runs.path (by kernel_rfl) spec_l02Join_ft (spec_l02Join_p1_e n xs x y r3 r7) (AllP.c ⟨h1, h2⟩ (AllP.c (by omega) (AllP.c ⟨h1, h2⟩ (AllP.c (by omega) (AllP.c ⟨h5, h6⟩ (AllP.c (by first | omega | (simp; done) | (simp only [List.length_take, List.length_drop, List.length_append, List.length_set] at *; omega)) (AllP.c ⟨h5, h6⟩ (AllP.c (by first | omega | (simp; done) | (simp only [List.length_take, List.length_drop, List.length_append, List.length_set] at *; omega)) trivial)))))))) (AllC.c c4 (AllC.c c8 trivial)) trivial
-- loop.example/g01094/spec.l09Is
theorem spec_l09Is_ft : X.ft F.spec_l09Is = some Tryd.f82 := by kernel_rfl
theorem spec_l09Is_p1_e (n : Int) (d w : List Int) (b1 b4 : Bool) : fnV X F.spec_l09Is Tryd.f82 [.agg [.int .i64 n, .immI .i64 d], .immI .i64 w] [] ⟨[true, true, true, true, true], [⟨.bool b1, [], []⟩, ⟨.bool b4, [], []⟩], []⟩ = .ok (⟨.bool b4, [], []⟩) ⟨[], [], []⟩ ⟨[b1 = true, b1 = true, b1 = true, b1 = true, b1 = true], [⟨F.spec_l02Is, [.agg [.int .i64 n, .immI .i64 d]], [], ⟨.bool b1, [], []⟩⟩, ⟨F.spec_l09Word, [.int .i64 n, .immI .i64 w], [], ⟨.bool b4, [], []⟩⟩], []⟩ := by kernel_rfl
theorem spec_l09Is_p1 {n : Int} {d w : List Int} {b1 : Bool} (c2 : Runs X F.spec_l02Is [.agg [.int .i64 n, .immI .i64 d]] [] ⟨.bool b1, [], []⟩) (h3 : b1 = true) {b4 : Bool} (c5 : Runs X F.spec_l09Word [.int .i64 n, .immI .i64 w] [] ⟨.bool b4, [], []⟩) : Runs X F.spec_l09Is [.agg [.int .i64 n, .immI .i64 d], .immI .i64 w] [] ⟨.bool b4, [], []⟩ :=
  Runs.path (by kernel_rfl) spec_l09Is_ft (spec_l09Is_p1_e n d w b1 b4) (AllP.c h3 (AllP.c h3 (AllP.c h3 (AllP.c h3 (AllP.c h3 trivial))))) (AllC.c c2 (AllC.c c5 trivial)) trivial
theorem spec_l09Is_p2_e (n : Int) (d w : List Int) (b1 : Bool) : fnV X F.spec_l09Is Tryd.f82 [.agg [.int .i64 n, .immI .i64 d], .immI .i64 w] [] ⟨[false, false, false, false, false], [⟨.bool b1, [], []⟩], []⟩ = .ok (⟨.bool false, [], []⟩) ⟨[], [], []⟩ ⟨[b1 = false, b1 = false, b1 = false, b1 = false, b1 = false], [⟨F.spec_l02Is, [.agg [.int .i64 n, .immI .i64 d]], [], ⟨.bool b1, [], []⟩⟩], []⟩ := by kernel_rfl
theorem spec_l09Is_p2 {n : Int} {d w : List Int} {b1 : Bool} (c2 : Runs X F.spec_l02Is [.agg [.int .i64 n, .immI .i64 d]] [] ⟨.bool b1, [], []⟩) (h6 : b1 = false) : Runs X F.spec_l09Is [.agg [.int .i64 n, .immI .i64 d], .immI .i64 w] [] ⟨.bool false, [], []⟩ :=
  Runs.path (by kernel_rfl) spec_l09Is_ft (spec_l09Is_p2_e n d w b1) (AllP.c h6 (AllP.c h6 (AllP.c h6 (AllP.c h6 (AllP.c h6 trivial))))) (AllC.c c2 trivial) trivial
-- loop.example/g01094/laws.big
theorem laws_big_ft : X.ft F.laws_big = some Tryd.f39 := by kernel_rfl
theorem laws_big_p1_e (c : List Int) : fnV X F.laws_big Tryd.f39 [.immI .u8 c] [] ⟨[], [], []⟩ = .ok (⟨.bool (decide ((↑c.length : Int) > (4096 : Int))), [], []⟩) ⟨[], [], []⟩ ⟨[], [], []⟩ := by kernel_rfl
theorem laws_big_p1 {c : List Int} : Runs X F.laws_big [.immI .u8 c] [] ⟨.bool (decide ((↑c.length : Int) > (4096 : Int))), [], []⟩ :=
  Runs.path (by kernel_rfl) laws_big_ft (laws_big_p1_e c) trivial trivial trivial
-- loop.example/g01094/laws.roll
theorem laws_roll_ft : X.ft F.laws_roll = some Tryd.f42 := by kernel_rfl
def laws_roll_s0 (c : List Int) (t6a : Nat) (t1015_2a : Int) : LSt := ⟨mkE (38 : Nat) (0 : Nat) [((0 : Nat), .immI .u8 c), ((5 : Nat), .ptr 1015 0), ((6 : Nat), .int .i64 (↑t6a : Int))], [((1015 : Nat), ⟨true, .var [.immI .u8 c, .int .i64 0, .int .u64 t1015_2a]⟩)]⟩
def laws_roll_o0_1 (c : List Int) (t1015_2az : Int) : OutL := .exit (0 : Nat) ⟨mkE (38 : Nat) (0 : Nat) [((5 : Nat), .ptr 1015 0)], [((1015 : Nat), ⟨true, .var [.immI .u8 c, .int .i64 0, .int .u64 t1015_2az]⟩)]⟩
theorem laws_roll_r0_1_e (c : List Int) (t6a : Nat) (t1015_2a : Int) : roundV X F.laws_roll (0 : Nat) (lb Tryd.f42 (0 : Nat)) (laws_roll_s0 c t6a t1015_2a) ⟨[true], [], []⟩ = .ok (.normal (laws_roll_s0 c (t6a + (1 : Nat)) (uadd (uadd (umul t1015_2a (1099511628211 : Int)) (IntKind.u64.wrap (c.getD t6a (0 : Int)))) (5 : Int)))) ⟨[], [], []⟩ ⟨[decide ((↑t6a : Int) < (↑c.length : Int)) = true, (0 : Int) ≤ (↑t6a : Int) ∧ (↑t6a : Int) < (↑c.length : Int), inR ((↑t6a : Int) + (1 : Int))], [], []⟩ := by kernel_rfl
theorem laws_roll_r0_1 {Q : Out → Prop} {c : List Int} {t6a : Nat} {t1015_2a : Int} (h1 : (↑t6a : Int) < (↑c.length : Int)) (h2 : (↑t6a : Int) + (1 : Int) ≤ (9223372036854775807 : Int)) (hq : WpL X F.laws_roll 0 (lb Tryd.f42 (0 : Nat)) (laws_roll_s0 c (t6a + (1 : Nat)) (uadd (uadd (umul t1015_2a (1099511628211 : Int)) (IntKind.u64.wrap (c.getD t6a (0 : Int)))) (5 : Int))).st Q) : WpL X F.laws_roll 0 (lb Tryd.f42 (0 : Nat)) (laws_roll_s0 c t6a t1015_2a).st Q :=
  roundV_path (laws_roll_r0_1_e c t6a t1015_2a) (AllP.c (decide_eq_true h1) (AllP.c ⟨(by omega), h1⟩ (AllP.c ⟨(by omega), h2⟩ trivial))) trivial trivial hq
theorem laws_roll_r0_2_e (c : List Int) (t6a : Nat) (t1015_2a : Int) : roundV X F.laws_roll (0 : Nat) (lb Tryd.f42 (0 : Nat)) (laws_roll_s0 c t6a t1015_2a) ⟨[false], [], []⟩ = .ok (laws_roll_o0_1 c t1015_2a) ⟨[], [], []⟩ ⟨[decide ((↑t6a : Int) < (↑c.length : Int)) = false], [], []⟩ := by kernel_rfl
theorem laws_roll_r0_2 {Q : Out → Prop} {c : List Int} {t6a : Nat} {t1015_2a : Int} (h3 : ¬(↑t6a : Int) < (↑c.length : Int)) (hq : Q (laws_roll_o0_1 c t1015_2a).out) : WpL X F.laws_roll 0 (lb Tryd.f42 (0 : Nat)) (laws_roll_s0 c t6a t1015_2a).st Q :=
  roundV_path (laws_roll_r0_2_e c t6a t1015_2a) (AllP.c (decide_eq_false h3) trivial) trivial trivial hq
theorem laws_roll_p1_e (c : List Int) (s t1015_2az : Int) : fnV X F.laws_roll Tryd.f42 [.immI .u8 c, .int .u64 s] [] ⟨[], [], [laws_roll_o0_1 c t1015_2az]⟩ = .ok (⟨.ptr 600000 0, [], [⟨true, .var [.immI .u8 c, .int .i64 0, .int .u64 t1015_2az]⟩]⟩) ⟨[], [], []⟩ ⟨[], [], [⟨(0 : Nat), lb Tryd.f42 (0 : Nat), laws_roll_s0 c (0 : Nat) (uadd (umul s (7681 : Int)) (IntKind.u64.wrap (↑c.length : Int))), laws_roll_o0_1 c t1015_2az⟩]⟩ := by kernel_rfl
theorem laws_roll_p1 {c : List Int} {s t1015_2az : Int} (l4 : WpL X F.laws_roll (0 : Nat) (lb Tryd.f42 (0 : Nat)) (laws_roll_s0 c (0 : Nat) (uadd (umul s (7681 : Int)) (IntKind.u64.wrap (↑c.length : Int)))).st fun o => o = (laws_roll_o0_1 c t1015_2az).out) : Runs X F.laws_roll [.immI .u8 c, .int .u64 s] [] ⟨.ptr 600000 0, [], [⟨true, .var [.immI .u8 c, .int .i64 0, .int .u64 t1015_2az]⟩]⟩ :=
  Runs.path (by kernel_rfl) laws_roll_ft (laws_roll_p1_e c s t1015_2az) trivial trivial (AllL.c l4 trivial)
-- (*loop.example/g01094/laws.dice).below
theorem laws_dice_below_ft : X.ft F.laws_dice_below = some Tryd.f43 := by kernel_rfl
theorem laws_dice_below_p1_e (n : Int) (c : List Int) (a h : Int) : fnV X F.laws_dice_below Tryd.f43 [.ptr 500000 0, .int .i64 n] [⟨true, .var [.immI .u8 c, .int .i64 a, .int .u64 h]⟩] ⟨[true], [], []⟩ = .ok (⟨.int .i64 0, [some ⟨true, .var [.immI .u8 c, .int .i64 a, .int .u64 h]⟩], []⟩) ⟨[], [], []⟩ ⟨[decide (n < (1 : Int)) = true], [], []⟩ := by kernel_rfl
theorem laws_dice_below_p1 {n : Int} {c : List Int} {a h : Int} (h1 : n < (1 : Int)) : Runs X F.laws_dice_below [.ptr 500000 0, .int .i64 n] [⟨true, .var [.immI .u8 c, .int .i64 a, .int .u64 h]⟩] ⟨.int .i64 0, [some ⟨true, .var [.immI .u8 c, .int .i64 a, .int .u64 h]⟩], []⟩ :=
  Runs.path (by kernel_rfl) laws_dice_below_ft (laws_dice_below_p1_e n c a h) (AllP.c (decide_eq_true h1) trivial) trivial trivial
theorem laws_dice_below_p2_e (n : Int) (c : List Int) (a h : Int) : fnV X F.laws_dice_below Tryd.f43 [.ptr 500000 0, .int .i64 n] [⟨true, .var [.immI .u8 c, .int .i64 a, .int .u64 h]⟩] ⟨[false, true], [], []⟩ = .ok (⟨.int .i64 ((uand (ushr (uadd (umul h (6364136223846793005 : Int)) (1442695040888963407 : Int)) (33 : Int)) (16777215 : Int) + c.getD a.toNat (0 : Int)).tmod n), [some ⟨true, .var [.immI .u8 c, .int .i64 (a + (1 : Int)), .int .u64 (uadd (umul h (6364136223846793005 : Int)) (1442695040888963407 : Int))]⟩], []⟩) ⟨[], [], []⟩ ⟨[decide (n < (1 : Int)) = false, (0 : Int) ≤ (33 : Int), inR (uand (ushr (uadd (umul h (6364136223846793005 : Int)) (1442695040888963407 : Int)) (33 : Int)) (16777215 : Int)), decide (a < (↑c.length : Int)) = true, (0 : Int) ≤ a ∧ a < (↑c.length : Int), inR (c.getD a.toNat (0 : Int)), inR (uand (ushr (uadd (umul h (6364136223846793005 : Int)) (1442695040888963407 : Int)) (33 : Int)) (16777215 : Int) + c.getD a.toNat (0 : Int)), inR (a + (1 : Int)), n ≠ (0 : Int)], [], []⟩ := by kernel_rfl
theorem laws_dice_below_p2 {n : Int} {c : List Int} {a h : Int} (h2 : ¬n < (1 : Int)) (h3 : (-9223372036854775808 : Int) ≤ uand (ushr (uadd (umul h (6364136223846793005 : Int)) (1442695040888963407 : Int)) (33 : Int)) (16777215 : Int)) (h4 : uand (ushr (uadd (umul h (6364136223846793005 : Int)) (1442695040888963407 : Int)) (33 : Int)) (16777215 : Int) ≤ (9223372036854775807 : Int)) (h5 : a < (↑c.length : Int)) (h6 : (0 : Int) ≤ a) (h7 : (-9223372036854775808 : Int) ≤ c.getD a.toNat (0 : Int)) (h8 : c.getD a.toNat (0 : Int) ≤ (9223372036854775807 : Int)) (h9 : (-9223372036854775808 : Int) ≤ uand (ushr (uadd (umul h (6364136223846793005 : Int)) (1442695040888963407 : Int)) (33 : Int)) (16777215 : Int) + c.getD a.toNat (0 : Int)) (h10 : uand (ushr (uadd (umul h (6364136223846793005 : Int)) (1442695040888963407 : Int)) (33 : Int)) (16777215 : Int) + c.getD a.toNat (0 : Int) ≤ (9223372036854775807 : Int)) (h11 : a + (1 : Int) ≤ (9223372036854775807 : Int)) : Runs X F.laws_dice_below [.ptr 500000 0, .int .i64 n] [⟨true, .var [.immI .u8 c, .int .i64 a, .int .u64 h]⟩] ⟨.int .i64 ((uand (ushr (uadd (umul h (6364136223846793005 : Int)) (1442695040888963407 : Int)) (33 : Int)) (16777215 : Int) + c.getD a.toNat (0 : Int)).tmod n), [some ⟨true, .var [.immI .u8 c, .int .i64 (a + (1 : Int)), .int .u64 (uadd (umul h (6364136223846793005 : Int)) (1442695040888963407 : Int))]⟩], []⟩ :=
  Runs.path (by kernel_rfl) laws_dice_below_ft (laws_dice_below_p2_e n c a h) (AllP.c (decide_eq_false h2) (AllP.c (by omega) (AllP.c ⟨h3, h4⟩ (AllP.c (decide_eq_true h5) (AllP.c ⟨h6, h5⟩ (AllP.c ⟨h7, h8⟩ (AllP.c ⟨h9, h10⟩ (AllP.c ⟨(by omega), h11⟩ (AllP.c (by omega) trivial))))))))) trivial trivial
theorem laws_dice_below_p3_e (n : Int) (c : List Int) (a h : Int) : fnV X F.laws_dice_below Tryd.f43 [.ptr 500000 0, .int .i64 n] [⟨true, .var [.immI .u8 c, .int .i64 a, .int .u64 h]⟩] ⟨[false, false], [], []⟩ = .ok (⟨.int .i64 ((uand (ushr (uadd (umul h (6364136223846793005 : Int)) (1442695040888963407 : Int)) (33 : Int)) (16777215 : Int)).tmod n), [some ⟨true, .var [.immI .u8 c, .int .i64 a, .int .u64 (uadd (umul h (6364136223846793005 : Int)) (1442695040888963407 : Int))]⟩], []⟩) ⟨[], [], []⟩ ⟨[decide (n < (1 : Int)) = false, (0 : Int) ≤ (33 : Int), inR (uand (ushr (uadd (umul h (6364136223846793005 : Int)) (1442695040888963407 : Int)) (33 : Int)) (16777215 : Int)), decide (a < (↑c.length : Int)) = false, n ≠ (0 : Int)], [], []⟩ := by kernel_rfl
theorem laws_dice_below_p3 {n : Int} {c : List Int} {a h : Int} (h2 : ¬n < (1 : Int)) (h3 : (-9223372036854775808 : Int) ≤ uand (ushr (uadd (umul h (6364136223846793005 : Int)) (1442695040888963407 : Int)) (33 : Int)) (16777215 : Int)) (h4 : uand (ushr (uadd (umul h (6364136223846793005 : Int)) (1442695040888963407 : Int)) (33 : Int)) (16777215 : Int) ≤ (9223372036854775807 : Int)) (h12 : ¬a < (↑c.length : Int)) : Runs X F.laws_dice_below [.ptr 500000 0, .int .i64 n] [⟨true, .var [.immI .u8 c, .int .i64 a, .int .u64 h]⟩] ⟨.int .i64 ((uand (ushr (uadd (umul h (6364136223846793005 : Int)) (1442695040888963407 : Int)) (33 : Int)) (16777215 : Int)).tmod n), [some ⟨true, .var [.immI .u8 c, .int .i64 a, .int .u64 (uadd (umul h (6364136223846793005 : Int)) (1442695040888963407 : Int))]⟩], []⟩ :=
  Runs.path (by kernel_rfl) laws_dice_below_ft (laws_dice_below_p3_e n c a h) (AllP.c (decide_eq_false h2) (AllP.c (by omega) (AllP.c ⟨h3, h4⟩ (AllP.c (decide_eq_false h12) (AllP.c (by omega) trivial))))) trivial trivial
-- loop.example/g01094/laws.likeInts
theorem laws_likeInts_ft : X.ft F.laws_likeInts = some Tryd.f41 := by kernel_rfl
theorem laws_likeInts_p1_e (u v : List Int) : fnV X F.laws_likeInts Tryd.f41 [.immI .i64 u, .immI .i64 v] [] ⟨[true], [], []⟩ = .ok (⟨.bool false, [], []⟩) ⟨[], [], []⟩ ⟨[((↑u.length : Int) != (↑v.length : Int)) = true], [], []⟩ := by kernel_rfl
theorem laws_likeInts_p1 {u v : List Int} (h1 : ¬(↑u.length : Int) = (↑v.length : Int)) : Runs X F.laws_likeInts [.immI .i64 u, .immI .i64 v] [] ⟨.bool false, [], []⟩ :=
  Runs.path (by kernel_rfl) laws_likeInts_ft (laws_likeInts_p1_e u v) (AllP.c (bne_iff_ne.2 h1) trivial) trivial trivial
def laws_likeInts_s0 (u v : List Int) (t5a : Nat) : LSt := ⟨mkE (26 : Nat) (0 : Nat) [((0 : Nat), .immI .i64 u), ((1 : Nat), .immI .i64 v), ((5 : Nat), .int .i64 (↑t5a : Int))], []⟩
def laws_likeInts_o0_1 : OutL := .ret ⟨mkE (26 : Nat) (0 : Nat) [((4 : Nat), .bool false)], []⟩
def laws_likeInts_o0_2 : OutL := .exit (0 : Nat) ⟨mkE (26 : Nat) (0 : Nat) [], []⟩
theorem laws_likeInts_r0_1_e (u v : List Int) (t5a : Nat) : roundV X F.laws_likeInts (0 : Nat) (lb Tryd.f41 (0 : Nat)) (laws_likeInts_s0 u v t5a) ⟨[true, true], [], []⟩ = .ok (laws_likeInts_o0_1) ⟨[], [], []⟩ ⟨[decide ((↑t5a : Int) < (↑u.length : Int)) = true, (0 : Int) ≤ (↑t5a : Int) ∧ (↑t5a : Int) < (↑u.length : Int), (0 : Int) ≤ (↑t5a : Int) ∧ (↑t5a : Int) < (↑v.length : Int), (u.getD t5a (0 : Int) != v.getD t5a (0 : Int)) = true], [], []⟩ := by kernel_rfl
theorem laws_likeInts_r0_1 {Q : Out → Prop} {u v : List Int} (h2 : (↑u.length : Int) = (↑v.length : Int)) {t5a : Nat} (h3 : (↑t5a : Int) < (↑u.length : Int)) (h4 : ¬u.getD t5a (0 : Int) = v.getD t5a (0 : Int)) (hq : Q (laws_likeInts_o0_1).out) : WpL X F.laws_likeInts 0 (lb Tryd.f41 (0 : Nat)) (laws_likeInts_s0 u v t5a).st Q :=
  roundV_path (laws_likeInts_r0_1_e u v t5a) (AllP.c (decide_eq_true h3) (AllP.c ⟨(by omega), h3⟩ (AllP.c ⟨(by omega), (by omega)⟩ (AllP.c (bne_iff_ne.2 h4) trivial)))) trivial trivial hq
theorem laws_likeInts_r0_2_e (u v : List Int) (t5a : Nat) : roundV X F.laws_likeInts (0 : Nat) (lb Tryd.f41 (0 : Nat)) (laws_likeInts_s0 u v t5a) ⟨[true, false], [], []⟩ = .ok (.normal (laws_likeInts_s0 u v (t5a + (1 : Nat)))) ⟨[], [], []⟩ ⟨[decide ((↑t5a : Int) < (↑u.length : Int)) = true, (0 : Int) ≤ (↑t5a : Int) ∧ (↑t5a : Int) < (↑u.length : Int), (0 : Int) ≤ (↑t5a : Int) ∧ (↑t5a : Int) < (↑v.length : Int), (u.getD t5a (0 : Int) != v.getD t5a (0 : Int)) = false, inR ((↑t5a : Int) + (1 : Int))], [], []⟩ := by kernel_rfl
theorem laws_likeInts_r0_2 {Q : Out → Prop} {u v : List Int} (h2 : (↑u.length : Int) = (↑v.length : Int)) {t5a : Nat} (h3 : (↑t5a : Int) < (↑u.length : Int)) (h5 : u.getD t5a (0 : Int) = v.getD t5a (0 : Int)) (h6 : (↑t5a : Int) + (1 : Int) ≤ (9223372036854775807 : Int)) (hq : WpL X F.laws_likeInts 0 (lb Tryd.f41 (0 : Nat)) (laws_likeInts_s0 u v (t5a + (1 : Nat))).st Q) : WpL X F.laws_likeInts 0 (lb Tryd.f41 (0 : Nat)) (laws_likeInts_s0 u v t5a).st Q :=
  roundV_path (laws_likeInts_r0_2_e u v t5a) (AllP.c (decide_eq_true h3) (AllP.c ⟨(by omega), h3⟩ (AllP.c ⟨(by omega), (by omega)⟩ (AllP.c (bne_eq_false_iff_eq.2 h5) (AllP.c ⟨(by omega), h6⟩ trivial))))) trivial trivial hq
theorem laws_likeInts_r0_3_e (u v : List Int) (t5a : Nat) : roundV X F.laws_likeInts (0 : Nat) (lb Tryd.f41 (0 : Nat)) (laws_likeInts_s0 u v t5a) ⟨[false], [], []⟩ = .ok (laws_likeInts_o0_2) ⟨[], [], []⟩ ⟨[decide ((↑t5a : Int) < (↑u.length : Int)) = false], [], []⟩ := by kernel_rfl
theorem laws_likeInts_r0_3 {Q : Out → Prop} {u v : List Int} (h2 : (↑u.length : Int) = (↑v.length : Int)) {t5a : Nat} (h7 : ¬(↑t5a : Int) < (↑u.length : Int)) (hq : Q (laws_likeInts_o0_2).out) : WpL X F.laws_likeInts 0 (lb Tryd.f41 (0 : Nat)) (laws_likeInts_s0 u v t5a).st Q :=
  roundV_path (laws_likeInts_r0_3_e u v t5a) (AllP.c (decide_eq_false h7) trivial) trivial trivial hq
theorem laws_likeInts_p2_e (u v : List Int) : fnV X F.laws_likeInts Tryd.f41 [.immI .i64 u, .immI .i64 v] [] ⟨[false], [], [laws_likeInts_o0_1]⟩ = .ok (⟨.bool false, [], []⟩) ⟨[], [], []⟩ ⟨[((↑u.length : Int) != (↑v.length : Int)) = false], [], [⟨(0 : Nat), lb Tryd.f41 (0 : Nat), laws_likeInts_s0 u v (0 : Nat), laws_likeInts_o0_1⟩]⟩ := by kernel_rfl
theorem laws_likeInts_p2 {u v : List Int} (h2 : (↑u.length : Int) = (↑v.length : Int)) (l8 : WpL X F.laws_likeInts (0 : Nat) (lb Tryd.f41 (0 : Nat)) (laws_likeInts_s0 u v (0 : Nat)).st fun o => o = laws_likeInts_o0_1.out) : Runs X F.laws_likeInts [.immI .i64 u, .immI .i64 v] [] ⟨.bool false, [], []⟩ :=
  Runs.path (by kernel_rfl) laws_likeInts_ft (laws_likeInts_p2_e u v) (AllP.c (bne_eq_false_iff_eq.2 h2) trivial) trivial (AllL.c l8 trivial)
theorem laws_likeInts_p3_e (u v : List Int) : fnV X F.laws_likeInts Tryd.f41 [.immI .i64 u, .immI .i64 v] [] ⟨[false], [], [laws_likeInts_o0_2]⟩ = .ok (⟨.bool true, [], []⟩) ⟨[], [], []⟩ ⟨[((↑u.length : Int) != (↑v.length : Int)) = false], [], [⟨(0 : Nat), lb Tryd.f41 (0 : Nat), laws_likeInts_s0 u v (0 : Nat), laws_likeInts_o0_2⟩]⟩ := by kernel_rfl
theorem laws_likeInts_p3 {u v : List Int} (h2 : (↑u.length : Int) = (↑v.length : Int)) (l9 : WpL X F.laws_likeInts (0 : Nat) (lb Tryd.f41 (0 : Nat)) (laws_likeInts_s0 u v (0 : Nat)).st fun o => o = laws_likeInts_o0_2.out) : Runs X F.laws_likeInts [.immI .i64 u, .immI .i64 v] [] ⟨.bool true, [], []⟩ :=
  Runs.path (by kernel_rfl) laws_likeInts_ft (laws_likeInts_p3_e u v) (AllP.c (bne_eq_false_iff_eq.2 h2) trivial) trivial (AllL.c l9 trivial)
-- loop.example/g01094/laws.join5
-- loop.example/g01094/impl.ExponentsOf
theorem impl_ExponentsOf_ft : X.ft F.impl_ExponentsOf = some Tryd.f46 := by kernel_rfl
def impl_ExponentsOf_s0 (n : Int) (w : List Int) (t22a : Nat) (r7a : List Int) : LSt := ⟨mkE (45 : Nat) (0 : Nat) [((7 : Nat), .rsl 7 0 n.toNat), ((20 : Nat), .immI .i64 w), ((21 : Nat), .int .i64 (↑w.length : Int)), ((22 : Nat), .int .i64 (↑t22a : Int))], [((7 : Nat), ⟨true, .ints .i64 r7a⟩)]⟩
def impl_ExponentsOf_o0_1 (n : Int) (r7az : List Int) : OutL := .exit (0 : Nat) ⟨mkE (45 : Nat) (0 : Nat) [((7 : Nat), .rsl 7 0 n.toNat)], [((7 : Nat), ⟨true, .ints .i64 r7az⟩)]⟩
theorem impl_ExponentsOf_r0_1_e (n : Int) (w : List Int) (t22a : Nat) (r7a : List Int) : roundV X F.impl_ExponentsOf (0 : Nat) (lb Tryd.f46 (0 : Nat)) (impl_ExponentsOf_s0 n w t22a r7a) ⟨[true, true], [], []⟩ = .ok (.normal (impl_ExponentsOf_s0 n w (t22a + (1 : Nat)) (r7a.set ((0 : Nat) + (w.getD t22a (0 : Int) - (1 : Int)).toNat) (r7a.getD ((0 : Nat) + (w.getD t22a (0 : Int) - (1 : Int)).toNat) (0 : Int) + (1 : Int))))) ⟨[], [], []⟩ ⟨[decide ((↑t22a : Int) < (↑w.length : Int)) = true, (0 : Int) ≤ (↑t22a : Int) ∧ (↑t22a : Int) < (↑w.length : Int), decide (w.getD t22a (0 : Int) > (0 : Int)) = true, inR (w.getD t22a (0 : Int) - (1 : Int)), (0 : Int) ≤ w.getD t22a (0 : Int) - (1 : Int) ∧ w.getD t22a (0 : Int) - (1 : Int) < (↑n.toNat : Int), (0 : Nat) + (w.getD t22a (0 : Int) - (1 : Int)).toNat < r7a.length, inR (r7a.getD ((0 : Nat) + (w.getD t22a (0 : Int) - (1 : Int)).toNat) (0 : Int) + (1 : Int)), (0 : Int) ≤ w.getD t22a (0 : Int) - (1 : Int) ∧ w.getD t22a (0 : Int) - (1 : Int) < (↑n.toNat : Int), (0 : Nat) + (w.getD t22a (0 : Int) - (1 : Int)).toNat < r7a.length, inR ((↑t22a : Int) + (1 : Int))], [], []⟩ := by kernel_rfl
theorem impl_ExponentsOf_r0_1 {Q : Out → Prop} {n : Int} {w : List Int} (h5 : (0 : Int) ≤ n) (h6 : n ≤ (↑(1099511627776 : Nat) : Int)) {t22a : Nat} {r7a : List Int} (e7 : r7a.length = n.toNat) (h8 : (↑t22a : Int) < (↑w.length : Int)) (h9 : w.getD t22a (0 : Int) > (0 : Int)) (h10 : w.getD t22a (0 : Int) - (1 : Int) ≤ (9223372036854775807 : Int)) (h11 : w.getD t22a (0 : Int) - (1 : Int) < (↑n.toNat : Int)) (h12 : (-9223372036854775808 : Int) ≤ r7a.getD ((0 : Nat) + (w.getD t22a (0 : Int) - (1 : Int)).toNat) (0 : Int) + (1 : Int)) (h13 : r7a.getD ((0 : Nat) + (w.getD t22a (0 : Int) - (1 : Int)).toNat) (0 : Int) + (1 : Int) ≤ (9223372036854775807 : Int)) (h14 : (↑t22a : Int) + (1 : Int) ≤ (9223372036854775807 : Int)) (hq : WpL X F.impl_ExponentsOf 0 (lb Tryd.f46 (0 : Nat)) (impl_ExponentsOf_s0 n w (t22a + (1 : Nat)) (r7a.set ((0 : Nat) + (w.getD t22a (0 : Int) - (1 : Int)).toNat) (r7a.getD ((0 : Nat) + (w.getD t22a (0 : Int) - (1 : Int)).toNat) (0 : Int) + (1 : Int)))).st Q) : WpL X F.impl_ExponentsOf 0 (lb Tryd.f46 (0 : Nat)) (impl_ExponentsOf_s0 n w t22a r7a).st Q :=
  roundV_path (impl_ExponentsOf_r0_1_e n w t22a r7a) (AllP.c (decide_eq_true h8) (AllP.c ⟨(by omega), h8⟩ (AllP.c (decide_eq_true h9) (AllP.c ⟨(by omega), h10⟩ (AllP.c ⟨(by omega), h11⟩ (AllP.c (by first | omega | (simp; done) | (simp only [List.length_take, List.length_drop, List.length_append, List.length_set] at *; omega)) (AllP.c ⟨h12, h13⟩ (AllP.c ⟨(by omega), h11⟩ (AllP.c (by first | omega | (simp; done) | (simp only [List.length_take, List.length_drop, List.length_append, List.length_set] at *; omega)) (AllP.c ⟨(by omega), h14⟩ trivial)))))))))) trivial trivial hq
theorem impl_ExponentsOf_r0_2_e (n : Int) (w : List Int) (t22a : Nat) (r7a : List Int) : roundV X F.impl_ExponentsOf (0 : Nat) (lb Tryd.f46 (0 : Nat)) (impl_ExponentsOf_s0 n w t22a r7a) ⟨[true, false], [], []⟩ = .ok (.normal (impl_ExponentsOf_s0 n w (t22a + (1 : Nat)) (r7a.set ((0 : Nat) + (-w.getD t22a (0 : Int) - (1 : Int)).toNat) (r7a.getD ((0 : Nat) + (-w.getD t22a (0 : Int) - (1 : Int)).toNat) (0 : Int) - (1 : Int))))) ⟨[], [], []⟩ ⟨[decide ((↑t22a : Int) < (↑w.length : Int)) = true, (0 : Int) ≤ (↑t22a : Int) ∧ (↑t22a : Int) < (↑w.length : Int), decide (w.getD t22a (0 : Int) > (0 : Int)) = false, inR (-w.getD t22a (0 : Int)), inR (-w.getD t22a (0 : Int) - (1 : Int)), (0 : Int) ≤ -w.getD t22a (0 : Int) - (1 : Int) ∧ -w.getD t22a (0 : Int) - (1 : Int) < (↑n.toNat : Int), (0 : Nat) + (-w.getD t22a (0 : Int) - (1 : Int)).toNat < r7a.length, inR (r7a.getD ((0 : Nat) + (-w.getD t22a (0 : Int) - (1 : Int)).toNat) (0 : Int) - (1 : Int)), (0 : Int) ≤ -w.getD t22a (0 : Int) - (1 : Int) ∧ -w.getD t22a (0 : Int) - (1 : Int) < (↑n.toNat : Int), (0 : Nat) + (-w.getD t22a (0 : Int) - (1 : Int)).toNat < r7a.length, inR ((↑t22a : Int) + (1 : Int))], [], []⟩ := by kernel_rfl
theorem impl_ExponentsOf_r0_2 {Q : Out → Prop} {n : Int} {w : List Int} (h5 : (0 : Int) ≤ n) (h6 : n ≤ (↑(1099511627776 : Nat) : Int)) {t22a : Nat} {r7a : List Int} (e7 : r7a.length = n.toNat) (h8 : (↑t22a : Int) < (↑w.length : Int)) (h15 : ¬w.getD t22a (0 : Int) > (0 : Int)) (h16 : -w.getD t22a (0 : Int) ≤ (9223372036854775807 : Int)) (h17 : (0 : Int) ≤ -w.getD t22a (0 : Int) - (1 : Int)) (h18 : -w.getD t22a (0 : Int) - (1 : Int) < (↑n.toNat : Int)) (h19 : (-9223372036854775808 : Int) ≤ r7a.getD ((0 : Nat) + (-w.getD t22a (0 : Int) - (1 : Int)).toNat) (0 : Int) - (1 : Int)) (h20 : r7a.getD ((0 : Nat) + (-w.getD t22a (0 : Int) - (1 : Int)).toNat) (0 : Int) - (1 : Int) ≤ (9223372036854775807 : Int)) (h21 : (↑t22a : Int) + (1 : Int) ≤ (9223372036854775807 : Int)) (hq : WpL X F.impl_ExponentsOf 0 (lb Tryd.f46 (0 : Nat)) (impl_ExponentsOf_s0 n w (t22a + (1 : Nat)) (r7a.set ((0 : Nat) + (-w.getD t22a (0 : Int) - (1 : Int)).toNat) (r7a.getD ((0 : Nat) + (-w.getD t22a (0 : Int) - (1 : Int)).toNat) (0 : Int) - (1 : Int)))).st Q) : WpL X F.impl_ExponentsOf 0 (lb Tryd.f46 (0 : Nat)) (impl_ExponentsOf_s0 n w t22a r7a).st Q :=
  roundV_path (impl_ExponentsOf_r0_2_e n w t22a r7a) (AllP.c (decide_eq_true h8) (AllP.c ⟨(by omega), h8⟩ (AllP.c (decide_eq_false h15) (AllP.c ⟨(by omega), h16⟩ (AllP.c ⟨(by omega), (by omega)⟩ (AllP.c ⟨h17, h18⟩ (AllP.c (by first | omega | (simp; done) | (simp only [List.length_take, List.length_drop, List.length_append, List.length_set] at *; omega)) (AllP.c ⟨h19, h20⟩ (AllP.c ⟨h17, h18⟩ (AllP.c (by first | omega | (simp; done) | (simp only [List.length_take, List.length_drop, List.length_append, List.length_set] at *; omega)) (AllP.c ⟨(by omega), h21⟩ trivial))))))))))) trivial trivial hq
theorem impl_ExponentsOf_r0_3_e (n : Int) (w : List Int) (t22a : Nat) (r7a : List Int) : roundV X F.impl_ExponentsOf (0 : Nat) (lb Tryd.f46 (0 : Nat)) (impl_ExponentsOf_s0 n w t22a r7a) ⟨[false], [], []⟩ = .ok (impl_ExponentsOf_o0_1 n r7a) ⟨[], [], []⟩ ⟨[decide ((↑t22a : Int) < (↑w.length : Int)) = false], [], []⟩ := by kernel_rfl
theorem impl_ExponentsOf_r0_3 {Q : Out → Prop} {n : Int} {w : List Int} (h5 : (0 : Int) ≤ n) (h6 : n ≤ (↑(1099511627776 : Nat) : Int)) {t22a : Nat} {r7a : List Int} (e7 : r7a.length = n.toNat) (h22 : ¬(↑t22a : Int) < (↑w.length : Int)) (hq : Q (impl_ExponentsOf_o0_1 n r7a).out) : WpL X F.impl_ExponentsOf 0 (lb Tryd.f46 (0 : Nat)) (impl_ExponentsOf_s0 n w t22a r7a).st Q :=
  roundV_path (impl_ExponentsOf_r0_3_e n w t22a r7a) (AllP.c (decide_eq_false h22) trivial) trivial trivial hq
theorem impl_ExponentsOf_p2_e (n : Int) (d w : List Int) (r1 : Int) (r7az : List Int) : fnV X F.impl_ExponentsOf Tryd.f46 [.agg [.int .i64 n, .immI .i64 d], .immI .i64 w] [] ⟨[true, false], [⟨.int .i64 r1, [], []⟩], [impl_ExponentsOf_o0_1 n r7az]⟩ = .ok (⟨.tup [.rsl 600000 0 n.toNat, .int .i64 0], [], [⟨true, .ints .i64 r7az⟩]⟩) ⟨[], [], []⟩ ⟨[(1 : Nat) ≤ (1 : Nat), (0 : Nat) = (0 : Nat) ∧ (1 : Nat) = (1 : Nat), (r1 != (0 : Int)) = false, (0 : Int) ≤ n ∧ n ≤ n ∧ n ≤ (↑(1099511627776 : Nat) : Int)], [⟨F.impl_checkSigned, [.agg [.int .i64 n, .immI .i64 d], .imm2 .i64 [w]], [], ⟨.int .i64 r1, [], []⟩⟩], [⟨(0 : Nat), lb Tryd.f46 (0 : Nat), impl_ExponentsOf_s0 n w (0 : Nat) (List.replicate n.toNat (0 : Int)), impl_ExponentsOf_o0_1 n r7az⟩]⟩ := by kernel_rfl
theorem impl_ExponentsOf_p2 {n : Int} {d w : List Int} {r1 : Int} (c2 : Runs X F.impl_checkSigned [.agg [.int .i64 n, .immI .i64 d], .imm2 .i64 [w]] [] ⟨.int .i64 r1, [], []⟩) (h4 : r1 = 0) (h5 : (0 : Int) ≤ n) (h6 : n ≤ (↑(1099511627776 : Nat) : Int)) {r7az : List Int} (l23 : WpL X F.impl_ExponentsOf (0 : Nat) (lb Tryd.f46 (0 : Nat)) (impl_ExponentsOf_s0 n w (0 : Nat) (List.replicate n.toNat (0 : Int))).st fun o => o = (impl_ExponentsOf_o0_1 n r7az).out) : Runs X F.impl_ExponentsOf [.agg [.int .i64 n, .immI .i64 d], .immI .i64 w] [] ⟨.tup [.rsl 600000 0 n.toNat, .int .i64 0], [], [⟨true, .ints .i64 r7az⟩]⟩ :=
  Runs.path (by kernel_rfl) impl_ExponentsOf_ft (impl_ExponentsOf_p2_e n d w r1 r7az) (AllP.c (by omega) (AllP.c ⟨(by omega), (by first | omega | (simp; done) | (simp only [List.length_take, List.length_drop, List.length_append, List.length_set] at *; omega))⟩ (AllP.c (bne_eq_false_iff_eq.2 h4) (AllP.c ⟨h5, ⟨(by omega), h6⟩⟩ trivial)))) (AllC.c c2 trivial) (AllL.c l23 trivial)
end Go.PR.S

end

section
/- Draws: numbers that follow from a code. Of a draw only its bounds are told. -/
set_option linter.unusedVariables false
set_option linter.unusedSimpArgs false
set_option maxRecDepth 20000
namespace Go.PR.S
open Go Go.PR Go.Proofs Gp

abbrev srcRow (c : List Int) (a h : Int) : Row := ⟨true, .var [.immI .u8 c, .int .i64 a, .int .u64 h]⟩
abbrev bD (c : List Int) : D := .immI .u8 c
abbrev sp : D := .ptr 500000 0

structure Bytes (c : List Int) : Prop where
  len : c.length ≤ 4096
  rng : ∀ x ∈ c, 0 ≤ x ∧ x ≤ 255

theorem Bytes.at {c : List Int} (h : Bytes c) {i : Nat} (hi : i < c.length) : 0 ≤ c.getD i 0 ∧ c.getD i 0 ≤ 255 := by
  rw [getD_lt hi]; exact h.rng _ (List.getElem_mem hi)

theorem uand_le (x : Int) {m : Nat} (hm : m < 2 ^ 63) : 0 ≤ uand x m ∧ uand x m ≤ m := by
  unfold uand
  have h1 : (BitVec.ofInt IntKind.u64.bits x &&& BitVec.ofInt IntKind.u64.bits (m : Int)).toNat ≤ m := by
    rw [BitVec.toNat_and]
    refine Nat.le_trans Nat.and_le_right ?_
    rw [BitVec.toNat_ofInt]
    have : ((m : Int) % ((2 ^ IntKind.u64.bits : Nat) : Int)).toNat = m := by
      have : ((2 ^ IntKind.u64.bits : Nat) : Int) = 18446744073709551616 := by decide
      rw [this]; omega
    omega
  rw [IntKind.wrap_u64]
  omega

theorem tmod_bd {x n : Int} (hx : 0 ≤ x) (hn : 1 ≤ n) : 0 ≤ x.tmod n ∧ x.tmod n < n := by
  rw [Int.tmod_eq_emod_of_nonneg hx]
  exact ⟨Int.emod_nonneg _ (by omega), Int.emod_lt_of_pos _ (by omega)⟩

theorem run_l01From {c : List Int} (hc : Bytes c) : ∃ h, Runs X F.spec_l01From [bD c] [] ⟨.ptr 600000 0, [], [srcRow c 0 h]⟩ := by
  have hl := hc.len
  have key : ∀ (k i : Nat) (h : Int), i + k = c.length → ∃ h', WpL X F.spec_l01From 0 (lb Tryd.f112 0) (spec_l01From_s0 c i h).st (fun o => o = (spec_l01From_o0_1 c h').out) := by
    intro k
    induction k with
    | zero => intro i h hi; exact ⟨h, spec_l01From_r0_3 (by omega) rfl⟩
    | succ k ih =>
      intro i h hi
      obtain ⟨h', hh⟩ := ih (i + 1) (uadd (uadd (umul h 1099511628211) (IntKind.wrap .u64 (c.getD i 0))) 11) (by omega)
      exact ⟨h', spec_l01From_r0_1 (by omega) (by omega) hh⟩
  obtain ⟨h', hh⟩ := key c.length 0 _ (by omega)
  exact ⟨h', spec_l01From_p1 hh⟩

theorem run_roll {c : List Int} (hc : Bytes c) (s : Int) : ∃ h, Runs X F.laws_roll [bD c, .int .u64 s] [] ⟨.ptr 600000 0, [], [srcRow c 0 h]⟩ := by
  have hl := hc.len
  have key : ∀ (k i : Nat) (h : Int), i + k = c.length → ∃ h', WpL X F.laws_roll 0 (lb Tryd.f42 0) (laws_roll_s0 c i h).st (fun o => o = (laws_roll_o0_1 c h').out) := by
    intro k
    induction k with
    | zero => intro i h hi; exact ⟨h, laws_roll_r0_2 (by omega) rfl⟩
    | succ k ih =>
      intro i h hi
      obtain ⟨h', hh⟩ := ih (i + 1) (uadd (uadd (umul h 1099511628211) (IntKind.wrap .u64 (c.getD i 0))) 5) (by omega)
      exact ⟨h', laws_roll_r0_1 (by omega) (by omega) hh⟩
  obtain ⟨h', hh⟩ := key c.length 0 _ (by omega)
  exact ⟨h', laws_roll_p1 hh⟩

theorem run_l01Next {c : List Int} (hc : Bytes c) (n a h : Int) (ha : 0 ≤ a) : ∃ r a' h', 0 ≤ a' ∧ 0 ≤ r ∧ (1 ≤ n → r < n) ∧ (n < 1 → r = 0) ∧
    Runs X F.spec_l01Next [sp, iD n] [srcRow c a h] ⟨iD r, [some (srcRow c a' h')], []⟩ := by
  have hl := hc.len
  by_cases hn : n < 1
  · exact ⟨0, a, h, ha, by omega, by omega, fun _ => rfl, spec_l01Next_p1 hn⟩
  · have hu : 0 ≤ uand (ushr (uadd (umul h 6364136223846793005) 1442695040888963407) 33) 16777215 ∧ uand (ushr (uadd (umul h 6364136223846793005) 1442695040888963407) 33) 16777215 ≤ 16777215 := uand_le _ (m := 16777215) (by omega)
    by_cases hal : a < c.length
    · have hb := hc.at (i := a.toNat) (by omega)
      have ht := tmod_bd (x := uand (ushr (uadd (umul h 6364136223846793005) 1442695040888963407) 33) 16777215 + c.getD a.toNat 0) (n := n) (by omega) (by omega)
      exact ⟨_, a + 1, _, by omega, ht.1, fun _ => ht.2, by omega, spec_l01Next_p2 hn (by omega) (by omega) hal ha (by omega) (by omega) (by omega) (by omega) (by omega)⟩
    · have ht := tmod_bd (x := uand (ushr (uadd (umul h 6364136223846793005) 1442695040888963407) 33) 16777215) (n := n) (by omega) (by omega)
      exact ⟨_, a, _, ha, ht.1, fun _ => ht.2, by omega, spec_l01Next_p3 hn (by omega) (by omega) hal⟩

theorem run_below {c : List Int} (hc : Bytes c) (n a h : Int) (ha : 0 ≤ a) : ∃ r a' h', 0 ≤ a' ∧ 0 ≤ r ∧ (1 ≤ n → r < n) ∧ (n < 1 → r = 0) ∧
    Runs X F.laws_dice_below [sp, iD n] [srcRow c a h] ⟨iD r, [some (srcRow c a' h')], []⟩ := by
  have hl := hc.len
  by_cases hn : n < 1
  · exact ⟨0, a, h, ha, by omega, by omega, fun _ => rfl, laws_dice_below_p1 hn⟩
  · have hu : 0 ≤ uand (ushr (uadd (umul h 6364136223846793005) 1442695040888963407) 33) 16777215 ∧ uand (ushr (uadd (umul h 6364136223846793005) 1442695040888963407) 33) 16777215 ≤ 16777215 := uand_le _ (m := 16777215) (by omega)
    by_cases hal : a < c.length
    · have hb := hc.at (i := a.toNat) (by omega)
      have ht := tmod_bd (x := uand (ushr (uadd (umul h 6364136223846793005) 1442695040888963407) 33) 16777215 + c.getD a.toNat 0) (n := n) (by omega) (by omega)
      exact ⟨_, a + 1, _, by omega, ht.1, fun _ => ht.2, by omega, laws_dice_below_p2 hn (by omega) (by omega) hal ha (by omega) (by omega) (by omega) (by omega) (by omega)⟩
    · have ht := tmod_bd (x := uand (ushr (uadd (umul h 6364136223846793005) 1442695040888963407) 33) 16777215) (n := n) (by omega) (by omega)
      exact ⟨_, a, _, ha, ht.1, fun _ => ht.2, by omega, laws_dice_below_p3 hn (by omega) (by omega) hal⟩

theorem run_l01Pick {c : List Int} (hc : Bytes c) (ys : List Int) (hy : ys ≠ []) (a h : Int) (ha : 0 ≤ a) : ∃ r a' h', 0 ≤ a' ∧ r ∈ ys ∧
    Runs X F.spec_l01Pick [sp, .rsl 500001 0 ys.length] [srcRow c a h, ⟨true, .ints .i64 ys⟩] ⟨iD r, [some (srcRow c a' h'), some ⟨true, .ints .i64 ys⟩], []⟩ := by
  have hlen : 1 ≤ (ys.length : Int) := by cases ys with | nil => exact absurd rfl hy | cons => simp; omega
  obtain ⟨r, a', h', h1, h2, h3, h4, h5⟩ := run_l01Next hc ys.length a h ha
  have h3 := h3 hlen
  refine ⟨_, a', h', h1, ?_, spec_l01Pick_p1 h5 h2 h3⟩
  rw [getD_lt (by omega)]
  exact List.getElem_mem _

theorem run_big (c : List Int) : Runs X F.laws_big [bD c] [] (boolR (decide ((c.length : Int) > 4096))) := laws_big_p1

theorem run_likeInts (u v : List Int) (hu : u.length ≤ B40) : Runs X F.laws_likeInts [lD u, lD v] [] (boolR (decide (u = v))) := by
  unfold B40 at hu
  by_cases hl : u.length = v.length
  · have hlp := loop_all (f := F.laws_likeInts) (b := 0) (body := lb Tryd.f41 0) (N := u.length) (oF := laws_likeInts_o0_1) (oT := laws_likeInts_o0_2) (st := fun i => laws_likeInts_s0 u v i)
      (p := fun i => decide (u.getD i 0 = v.getD i 0)) (fun i hi hp Q hq => ?_) (fun i hi hp Q hq => ?_) (fun Q hq => ?_)
    · have e : (List.range u.length).all (fun i => decide (u.getD i 0 = v.getD i 0)) = decide (u = v) := by
        rw [Bool.eq_iff_iff, List.all_eq_true, decide_eq_true_iff]
        constructor
        · intro h
          apply List.ext_getElem hl
          intro i h1 h2
          have := h i (List.mem_range.2 h1)
          rwa [decide_eq_true_iff, getD_lt h1, getD_lt h2] at this
        · intro h i _; rw [h]; simp
      rw [e] at hlp
      cases hd : decide (u = v) with
      | true => rw [hd] at hlp; exact laws_likeInts_p3 (by omega) hlp
      | false => rw [hd] at hlp; exact laws_likeInts_p2 (by omega) hlp
    · exact laws_likeInts_r0_2 (by omega) (by omega) (by simpa using hp) (by omega) hq
    · exact laws_likeInts_r0_1 (by omega) (by omega) (by simpa using hp) hq
    · exact laws_likeInts_r0_3 (by omega) (by omega) hq
  · have : decide (u = v) = false := decide_eq_false fun e => hl (by rw [e])
    rw [this]
    exact laws_likeInts_p1 (by omega)

def Msk (xs : List Int) : Prop := ∀ x ∈ xs, ∃ k : Nat, x = k ∧ k < 256

theorem Msk.at {xs : List Int} (h : Msk xs) {i : Nat} (hi : i < xs.length) : ∃ k : Nat, xs.getD i 0 = k ∧ k < 256 := by
  rw [getD_lt hi]; exact h _ (List.getElem_mem hi)

theorem Msk.set {xs : List Int} (h : Msk xs) (i : Nat) {x : Int} (hx : ∃ k : Nat, x = k ∧ k < 256) : Msk (xs.set i x) := fun y hy => by
  rcases List.mem_or_eq_of_mem_set hy with hy | rfl
  · exact h y hy
  · exact hx

theorem ior_msk {x y : Int} (hx : ∃ k : Nat, x = k ∧ k < 256) (hy : ∃ k : Nat, y = k ∧ k < 256) : ∃ k : Nat, ior x y = k ∧ k < 256 := by
  obtain ⟨a, rfl, ha⟩ := hx
  obtain ⟨b, rfl, hb⟩ := hy
  exact ⟨a ||| b, ior_nat (by omega) (by omega), Nat.or_lt_two_pow (n := 8) ha hb⟩

theorem pow_msk {i : Nat} (h : i < 8) : ∃ k : Nat, ((2 ^ i : Nat) : Int) = k ∧ k < 256 := ⟨2 ^ i, rfl, Nat.pow_lt_pow_right (n := 8) (by omega) h⟩

theorem run_l02Free {n : Nat} (hn : n ≤ 8) : ∃ xs : List Int, xs.length = n ∧ Msk xs ∧ Runs X F.spec_l02Free [iD n] [] ⟨.agg [iD n, .rsl 600000 0 xs.length], [], [⟨true, .ints .i64 xs⟩]⟩ := by
  have key : ∀ (k i : Nat) (xs : List Int), i + k = n → xs.length = i → Msk xs → ∃ ys : List Int, ys.length = n ∧ Msk ys ∧ WpL X F.spec_l02Free 0 (lb Tryd.f130 0) (spec_l02Free_s0 n i xs).st (fun o => o = (spec_l02Free_o0_1 n ys).out) := by
    intro k
    induction k with
    | zero => intro i xs hi hx hm; exact ⟨xs, by omega, hm, spec_l02Free_r0_2 (by omega) rfl⟩
    | succ k ih =>
      intro i xs hi hx hm
      obtain ⟨ys, h1, h2, h3⟩ := ih (i + 1) (xs ++ [((2 ^ i : Nat) : Int)]) (by omega) (by simp [hx]) (fun y hy => by
        rcases List.mem_append.1 hy with hy | hy
        · exact hm y hy
        · rw [List.mem_singleton.1 hy]; exact pow_msk (by omega))
      exact ⟨ys, h1, h2, spec_l02Free_r0_1 (by omega) (run_l01One (by omega)) (by omega) (by omega) h3⟩
  obtain ⟨ys, h1, h2, h3⟩ := key n 0 [] (by omega) rfl (fun y hy => by cases hy)
  exact ⟨ys, h1, h2, spec_l02Free_p1 h3⟩

theorem run_l02Join {n : Int} {xs : List Int} {x y : Nat} (hx : x < xs.length) (hy : y < xs.length) (hl : xs.length ≤ 8) (hm : Msk xs) : ∃ ys : List Int, ys.length = xs.length ∧ Msk ys ∧
    Runs X F.spec_l02Join [.agg [iD n, .rsl 500000 0 xs.length], iD x, iD y] [⟨true, .ints .i64 xs⟩] ⟨.tup [], [some ⟨true, .ints .i64 ys⟩], []⟩ := by
  refine ⟨_, ?_, ?_, spec_l02Join_p1 (by omega) (by omega) (run_l01One (i := y) (by omega)) (by omega) (by omega) (run_l01One (i := x) (by omega))⟩
  · simp
  · have h1 : Msk (xs.set (0 + (x : Int).toNat) (ior (xs.getD (0 + (x : Int).toNat) 0) ((2 ^ y : Nat) : Int))) := hm.set _ (ior_msk (hm.at (by omega)) (pow_msk (by omega)))
    exact h1.set _ (ior_msk (h1.at (by rw [List.length_set]; omega)) (pow_msk (by omega)))

theorem run_l09Is (n : Int) (d w : List Int) (hd : d.length ≤ B40) (hw : w.length ≤ B40) : Runs X F.spec_l09Is [alD n d, lD w] [] (boolR (decide (sgCode n d [w] = 0))) := by
  have c1 := run_l02Is n d hd
  unfold sgCode
  cases h1 : alOK n d with
  | false => rw [h1] at c1; exact spec_l09Is_p2 c1 rfl
  | true =>
    rw [h1] at c1
    have c2 := run_l09Word (alOK_n h1) w hw
    have e2 : decide ((if true = true then (if [w].all (sgOK n) = true then (0 : Int) else 2) else 1) = 0) = sgOK n w := by
      have : [w].all (sgOK n) = sgOK n w := by simp
      rw [this]
      cases sgOK n w <;> rfl
    rw [e2]
    exact spec_l09Is_p1 c1 rfl c2

end Go.PR.S

end
