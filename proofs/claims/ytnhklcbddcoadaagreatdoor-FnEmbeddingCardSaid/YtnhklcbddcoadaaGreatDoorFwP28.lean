/- Path lemmas (written by Vc.lean). -/
import Derived.Test.YtnhklcbddcoadaaGreatDoorFwMk
import Derived.Test.YtnhklcbddcoadaaGreatDoorFwP27
set_option linter.unusedVariables false
set_option linter.unusedSimpArgs false
set_option linter.unusedSectionVars false
section
set_option maxRecDepth 20000
open Go Go.PR Go.Proofs Go.PR.S
namespace Go.PR.S
theorem ze9 : X.ft F.zh = some Tryz.f119 := by kernel_rfl
theorem zyf {m : Int} {c : List Int} {a h : Int} (h1 : m ≥ (4 : Int)) {r2 : Int} {c3 : List Int} {a4 h5 : Int} (c6 : Runs X F.z5 [.ptr 500000 0, iD 6] [⟨true, .var [.immI .u8 c, iD a, .int .u64 h]⟩] ⟨iD r2, [some ⟨true, .var [.immI .u8 c3, iD a4, .int .u64 h5]⟩], []⟩) (h7 : r2 = 0) : Runs X F.zh [.ptr 500000 0, iD m] [⟨true, .var [.immI .u8 c, iD a, .int .u64 h]⟩] ⟨.agg [iD 4, .rsl 600000 0 4], [some ⟨true, .var [.immI .u8 c3, iD a4, .int .u64 h5]⟩], [⟨true, .ints .i64 [(11 : Int), (7 : Int), (14 : Int), (13 : Int)]⟩]⟩ :=
  RG ze9 [true, true, true, true, true] [decide (m ≥ (4 : Int)) = true, decide (m ≥ (4 : Int)) = true, decide (m ≥ (4 : Int)) = true, decide (m ≥ (4 : Int)) = true, (r2 == (0 : Int)) = true] (PA (decide_eq_true h1) (PA (decide_eq_true h1) (PA (decide_eq_true h1) (PA (decide_eq_true h1) (PA (beq_iff_eq.2 h7) trivial))))) (PC c6 PN) LN
def z6r (r16 n21 : Int) (xs22 : List Int) (r24 : Int) (t8a : Nat) (x500000_0a : List Int) (t500000_1a t500000_2a : Int) (r2006001a : List Int) : LSt := ⟨mkE 53 0 [(0, .ptr 500000 0), (4, .ptr 1004 0), (5, iD r16), (6, .ptr 1006 0), (7, iD r24), (8, iD (↑t8a : Int))], [(500000, ⟨true, .var [.immI .u8 x500000_0a, iD t500000_1a, .int .u64 t500000_2a]⟩), (1004, ⟨true, .var [iD 0, .nil NK.unk]⟩), (1006, ⟨true, .var [iD n21, .rsl 2006001 0 xs22.length]⟩), (2006001, ⟨true, .ints .i64 r2006001a⟩)]⟩
def zad (n21 : Int) (xs22 r2006001az x500000_0az : List Int) (t500000_1az t500000_2az : Int) : OutL := .exit 0 ⟨mkE 53 0 [(4, .ptr 1004 0), (6, .ptr 1006 0)], [(1004, ⟨true, .var [iD 0, .nil NK.unk]⟩), (1006, ⟨true, .var [iD n21, .rsl 2006001 0 xs22.length]⟩), (2006001, ⟨true, .ints .i64 r2006001az⟩), (500000, ⟨true, .var [.immI .u8 x500000_0az, iD t500000_1az, .int .u64 t500000_2az]⟩)]⟩
def z3q (r16 n21 : Int) (xs22 : List Int) (r24 : Int) (t8a t9b : Nat) (x500000_0b : List Int) (t500000_1b t500000_2b : Int) (r2006001b : List Int) : LSt := ⟨mkE 53 0 [(0, .ptr 500000 0), (4, .ptr 1004 0), (5, iD r16), (6, .ptr 1006 0), (7, iD r24), (8, iD (↑t8a : Int)), (9, iD (↑t9b : Int))], [(500000, ⟨true, .var [.immI .u8 x500000_0b, iD t500000_1b, .int .u64 t500000_2b]⟩), (1004, ⟨true, .var [iD 0, .nil NK.unk]⟩), (1006, ⟨true, .var [iD n21, .rsl 2006001 0 xs22.length]⟩), (2006001, ⟨true, .ints .i64 r2006001b⟩)]⟩
def zae (r16 n21 : Int) (xs22 : List Int) (r24 : Int) (t8a : Nat) (x500000_0bz : List Int) (t500000_1bz t500000_2bz : Int) (r2006001bz : List Int) : OutL := .exit 2 ⟨mkE 53 0 [(0, .ptr 500000 0), (4, .ptr 1004 0), (5, iD r16), (6, .ptr 1006 0), (7, iD r24), (8, iD (↑t8a : Int))], [(500000, ⟨true, .var [.immI .u8 x500000_0bz, iD t500000_1bz, .int .u64 t500000_2bz]⟩), (1004, ⟨true, .var [iD 0, .nil NK.unk]⟩), (1006, ⟨true, .var [iD n21, .rsl 2006001 0 xs22.length]⟩), (2006001, ⟨true, .ints .i64 r2006001bz⟩)]⟩
theorem zyk {Q : Out → Prop} {r16 n21 : Int} {xs22 : List Int} (c23 : Runs X F.z1i [iD r16] [] ⟨.agg [iD n21, .rsl 600000 0 xs22.length], [], [⟨true, .ints .i64 xs22⟩]⟩) {r24 : Int} {t8a : Nat} (h31 : (↑t8a : Int) < r16) {t9b : Nat} {x500000_0b : List Int} {t500000_1b t500000_2b : Int} {r2006001b : List Int} (e32 : r2006001b.length = xs22.length) (h33 : (↑t9b : Int) < (↑t8a : Int)) {r34 : Int} {c35 : List Int} {a36 h37 : Int} (c38 : Runs X F.z5 [.ptr 500000 0, iD r24] [⟨true, .var [.immI .u8 x500000_0b, iD t500000_1b, .int .u64 t500000_2b]⟩] ⟨iD r34, [some ⟨true, .var [.immI .u8 c35, iD a36, .int .u64 h37]⟩], []⟩) (h39 : r34 = 0) {xs40 : List Int} (c41 : Runs X F.zaj [.agg [iD n21, .rsl 500000 0 xs22.length], iD (↑t8a : Int), iD (↑t9b : Int)] [⟨true, .ints .i64 r2006001b⟩] ⟨.tup [], [some ⟨true, .ints .i64 xs40⟩], []⟩) (h42 : (↑t9b : Int) + (1 : Int) ≤ (9223372036854775807 : Int)) (hq : wq F.zh 2 Tryz.f119 1 (z3q r16 n21 xs22 r24 t8a (t9b + 1) c35 a36 h37 xs40) Q) : wq F.zh 2 Tryz.f119 1 (z3q r16 n21 xs22 r24 t8a t9b x500000_0b t500000_1b t500000_2b r2006001b) Q :=
  RS [true, true] (.normal (z3q r16 n21 xs22 r24 t8a (t9b + 1) c35 a36 h37 xs40)) [decide ((↑t9b : Int) < (↑t8a : Int)) = true, (r34 == (0 : Int)) = true, inR ((↑t9b : Int) + (1 : Int))] (PA (decide_eq_true h33) (PA (beq_iff_eq.2 h39) (PA ⟨(by omega), h42⟩ trivial))) (PC c38 (PC c41 PN)) LN hq
theorem zyl {Q : Out → Prop} {r16 n21 : Int} {xs22 : List Int} (c23 : Runs X F.z1i [iD r16] [] ⟨.agg [iD n21, .rsl 600000 0 xs22.length], [], [⟨true, .ints .i64 xs22⟩]⟩) {r24 : Int} {t8a : Nat} (h31 : (↑t8a : Int) < r16) {t9b : Nat} {x500000_0b : List Int} {t500000_1b t500000_2b : Int} {r2006001b : List Int} (e32 : r2006001b.length = xs22.length) (h33 : (↑t9b : Int) < (↑t8a : Int)) {r34 : Int} {c35 : List Int} {a36 h37 : Int} (c38 : Runs X F.z5 [.ptr 500000 0, iD r24] [⟨true, .var [.immI .u8 x500000_0b, iD t500000_1b, .int .u64 t500000_2b]⟩] ⟨iD r34, [some ⟨true, .var [.immI .u8 c35, iD a36, .int .u64 h37]⟩], []⟩) (h43 : ¬r34 = 0) (h44 : (↑t9b : Int) + (1 : Int) ≤ (9223372036854775807 : Int)) (hq : wq F.zh 2 Tryz.f119 1 (z3q r16 n21 xs22 r24 t8a (t9b + 1) c35 a36 h37 r2006001b) Q) : wq F.zh 2 Tryz.f119 1 (z3q r16 n21 xs22 r24 t8a t9b x500000_0b t500000_1b t500000_2b r2006001b) Q :=
  RS [true, false] (.normal (z3q r16 n21 xs22 r24 t8a (t9b + 1) c35 a36 h37 r2006001b)) [decide ((↑t9b : Int) < (↑t8a : Int)) = true, (r34 == (0 : Int)) = false, inR ((↑t9b : Int) + (1 : Int))] (PA (decide_eq_true h33) (PA (beq_false_of_ne h43) (PA ⟨(by omega), h44⟩ trivial))) (PC c38 PN) LN hq
theorem zym {Q : Out → Prop} {r16 n21 : Int} {xs22 : List Int} (c23 : Runs X F.z1i [iD r16] [] ⟨.agg [iD n21, .rsl 600000 0 xs22.length], [], [⟨true, .ints .i64 xs22⟩]⟩) {r24 : Int} {t8a : Nat} (h31 : (↑t8a : Int) < r16) {t9b : Nat} {x500000_0b : List Int} {t500000_1b t500000_2b : Int} {r2006001b : List Int} (e32 : r2006001b.length = xs22.length) (h45 : ¬(↑t9b : Int) < (↑t8a : Int)) (hq : Q (zae r16 n21 xs22 r24 t8a x500000_0b t500000_1b t500000_2b r2006001b).out) : wq F.zh 2 Tryz.f119 1 (z3q r16 n21 xs22 r24 t8a t9b x500000_0b t500000_1b t500000_2b r2006001b) Q :=
  RS [false] (zae r16 n21 xs22 r24 t8a x500000_0b t500000_1b t500000_2b r2006001b) [decide ((↑t9b : Int) < (↑t8a : Int)) = false] (PA (decide_eq_false h45) trivial) PN LN hq
theorem zyi {Q : Out → Prop} {r16 n21 : Int} {xs22 : List Int} (c23 : Runs X F.z1i [iD r16] [] ⟨.agg [iD n21, .rsl 600000 0 xs22.length], [], [⟨true, .ints .i64 xs22⟩]⟩) {r24 : Int} {t8a : Nat} {x500000_0a : List Int} {t500000_1a t500000_2a : Int} {r2006001a : List Int} (e30 : r2006001a.length = xs22.length) (h31 : (↑t8a : Int) < r16) {x500000_0bz : List Int} {t500000_1bz t500000_2bz : Int} {r2006001bz : List Int} (l46 : wl F.zh 2 Tryz.f119 1 (z3q r16 n21 xs22 r24 t8a 0 x500000_0a t500000_1a t500000_2a r2006001a) (zae r16 n21 xs22 r24 t8a x500000_0bz t500000_1bz t500000_2bz r2006001bz)) (h47 : (↑t8a : Int) + (1 : Int) ≤ (9223372036854775807 : Int)) (hq : wq F.zh 0 Tryz.f119 0 (z6r r16 n21 xs22 r24 (t8a + 1) x500000_0bz t500000_1bz t500000_2bz r2006001bz) Q) : wq F.zh 0 Tryz.f119 0 (z6r r16 n21 xs22 r24 t8a x500000_0a t500000_1a t500000_2a r2006001a) Q :=
  RS [true] (.normal (z6r r16 n21 xs22 r24 (t8a + 1) x500000_0bz t500000_1bz t500000_2bz r2006001bz)) [decide ((↑t8a : Int) < r16) = true, inR ((↑t8a : Int) + (1 : Int))] (PA (decide_eq_true h31) (PA ⟨(by omega), h47⟩ trivial)) PN (LC l46 LN) hq
theorem zyj {Q : Out → Prop} {r16 n21 : Int} {xs22 : List Int} (c23 : Runs X F.z1i [iD r16] [] ⟨.agg [iD n21, .rsl 600000 0 xs22.length], [], [⟨true, .ints .i64 xs22⟩]⟩) {r24 : Int} {t8a : Nat} {x500000_0a : List Int} {t500000_1a t500000_2a : Int} {r2006001a : List Int} (e30 : r2006001a.length = xs22.length) (h48 : ¬(↑t8a : Int) < r16) (hq : Q (zad n21 xs22 r2006001a x500000_0a t500000_1a t500000_2a).out) : wq F.zh 0 Tryz.f119 0 (z6r r16 n21 xs22 r24 t8a x500000_0a t500000_1a t500000_2a r2006001a) Q :=
  RS [false] (zad n21 xs22 r2006001a x500000_0a t500000_1a t500000_2a) [decide ((↑t8a : Int) < r16) = false] (PA (decide_eq_false h48) trivial) PN LN hq
theorem zyg {m : Int} {c : List Int} {a h : Int} (h1 : m ≥ (4 : Int)) {r2 : Int} {c3 : List Int} {a4 h5 : Int} (c6 : Runs X F.z5 [.ptr 500000 0, iD 6] [⟨true, .var [.immI .u8 c, iD a, .int .u64 h]⟩] ⟨iD r2, [some ⟨true, .var [.immI .u8 c3, iD a4, .int .u64 h5]⟩], []⟩) (h8 : ¬r2 = 0) (h9 : m + (1 : Int) ≤ (9223372036854775807 : Int)) {r10 : Int} {c11 : List Int} {a12 h13 : Int} (c14 : Runs X F.z5 [.ptr 500000 0, iD (m + (1 : Int))] [⟨true, .var [.immI .u8 c3, iD a4, .int .u64 h5]⟩] ⟨iD r10, [some ⟨true, .var [.immI .u8 c11, iD a12, .int .u64 h13]⟩], []⟩) (h15 : r10 < (2 : Int)) {r16 : Int} {c17 : List Int} {a18 h19 : Int} (c20 : Runs X F.z5 [.ptr 500000 0, iD (m + (1 : Int))] [⟨true, .var [.immI .u8 c11, iD a12, .int .u64 h13]⟩] ⟨iD r16, [some ⟨true, .var [.immI .u8 c17, iD a18, .int .u64 h19]⟩], []⟩) {n21 : Int} {xs22 : List Int} (c23 : Runs X F.z1i [iD r16] [] ⟨.agg [iD n21, .rsl 600000 0 xs22.length], [], [⟨true, .ints .i64 xs22⟩]⟩) {r24 : Int} {c25 : List Int} {a26 h27 : Int} {ys28 : List Int} (c29 : Runs X F.z3p [.ptr 500000 0, .rsl 500001 0 4] [⟨true, .var [.immI .u8 c17, iD a18, .int .u64 h19]⟩, ⟨true, .ints .i64 [(2 : Int), (2 : Int), (3 : Int), (4 : Int)]⟩] ⟨iD r24, [some ⟨true, .var [.immI .u8 c25, iD a26, .int .u64 h27]⟩, some ⟨true, .ints .i64 ys28⟩], []⟩) {r2006001az x500000_0az : List Int} {t500000_1az t500000_2az : Int} (l49 : wl F.zh 0 Tryz.f119 0 (z6r r16 n21 xs22 r24 0 c25 a26 h27 xs22) (zad n21 xs22 r2006001az x500000_0az t500000_1az t500000_2az)) : Runs X F.zh [.ptr 500000 0, iD m] [⟨true, .var [.immI .u8 c, iD a, .int .u64 h]⟩] ⟨.agg [iD n21, .rsl 600000 0 xs22.length], [some ⟨true, .var [.immI .u8 x500000_0az, iD t500000_1az, .int .u64 t500000_2az]⟩], [⟨true, .ints .i64 r2006001az⟩]⟩ :=
  RG ze9 [true, true, true, true, false, true] [decide (m ≥ (4 : Int)) = true, decide (m ≥ (4 : Int)) = true, decide (m ≥ (4 : Int)) = true, decide (m ≥ (4 : Int)) = true, (r2 == (0 : Int)) = false, inR (m + (1 : Int)), decide (r10 < (2 : Int)) = true, inR (m + (1 : Int))] (PA (decide_eq_true h1) (PA (decide_eq_true h1) (PA (decide_eq_true h1) (PA (decide_eq_true h1) (PA (beq_false_of_ne h8) (PA ⟨(by omega), h9⟩ (PA (decide_eq_true h15) (PA ⟨(by omega), h9⟩ trivial)))))))) (PC c6 (PC c14 (PC c20 (PC c23 (PC c29 PN))))) (LC l49 LN)
def zyn (r10 n51 : Int) (xs52 : List Int) (r54 : Int) (t8a : Nat) (x500000_0a : List Int) (t500000_1a t500000_2a : Int) (r2006001a : List Int) : LSt := ⟨mkE 53 0 [(0, .ptr 500000 0), (4, .ptr 1004 0), (5, iD r10), (6, .ptr 1006 0), (7, iD r54), (8, iD (↑t8a : Int))], [(500000, ⟨true, .var [.immI .u8 x500000_0a, iD t500000_1a, .int .u64 t500000_2a]⟩), (1004, ⟨true, .var [iD 0, .nil NK.unk]⟩), (1006, ⟨true, .var [iD n51, .rsl 2006001 0 xs52.length]⟩), (2006001, ⟨true, .ints .i64 r2006001a⟩)]⟩
def zye (n51 : Int) (xs52 r2006001az x500000_0az : List Int) (t500000_1az t500000_2az : Int) : OutL := .exit 0 ⟨mkE 53 0 [(4, .ptr 1004 0), (6, .ptr 1006 0)], [(1004, ⟨true, .var [iD 0, .nil NK.unk]⟩), (1006, ⟨true, .var [iD n51, .rsl 2006001 0 xs52.length]⟩), (2006001, ⟨true, .ints .i64 r2006001az⟩), (500000, ⟨true, .var [.immI .u8 x500000_0az, iD t500000_1az, .int .u64 t500000_2az]⟩)]⟩
theorem zyh {m : Int} {c : List Int} {a h : Int} (h1 : m ≥ (4 : Int)) {r2 : Int} {c3 : List Int} {a4 h5 : Int} (c6 : Runs X F.z5 [.ptr 500000 0, iD 6] [⟨true, .var [.immI .u8 c, iD a, .int .u64 h]⟩] ⟨iD r2, [some ⟨true, .var [.immI .u8 c3, iD a4, .int .u64 h5]⟩], []⟩) (h8 : ¬r2 = 0) (h9 : m + (1 : Int) ≤ (9223372036854775807 : Int)) {r10 : Int} {c11 : List Int} {a12 h13 : Int} (c14 : Runs X F.z5 [.ptr 500000 0, iD (m + (1 : Int))] [⟨true, .var [.immI .u8 c3, iD a4, .int .u64 h5]⟩] ⟨iD r10, [some ⟨true, .var [.immI .u8 c11, iD a12, .int .u64 h13]⟩], []⟩) (h50 : ¬r10 < (2 : Int)) {n51 : Int} {xs52 : List Int} (c53 : Runs X F.z1i [iD r10] [] ⟨.agg [iD n51, .rsl 600000 0 xs52.length], [], [⟨true, .ints .i64 xs52⟩]⟩) {r54 : Int} {c55 : List Int} {a56 h57 : Int} {ys58 : List Int} (c59 : Runs X F.z3p [.ptr 500000 0, .rsl 500001 0 4] [⟨true, .var [.immI .u8 c11, iD a12, .int .u64 h13]⟩, ⟨true, .ints .i64 [(2 : Int), (2 : Int), (3 : Int), (4 : Int)]⟩] ⟨iD r54, [some ⟨true, .var [.immI .u8 c55, iD a56, .int .u64 h57]⟩, some ⟨true, .ints .i64 ys58⟩], []⟩) {r2006001az x500000_0az : List Int} {t500000_1az t500000_2az : Int} (l79 : wl F.zh 0 Tryz.f119 0 (zyn r10 n51 xs52 r54 0 c55 a56 h57 xs52) (zye n51 xs52 r2006001az x500000_0az t500000_1az t500000_2az)) : Runs X F.zh [.ptr 500000 0, iD m] [⟨true, .var [.immI .u8 c, iD a, .int .u64 h]⟩] ⟨.agg [iD n51, .rsl 600000 0 xs52.length], [some ⟨true, .var [.immI .u8 x500000_0az, iD t500000_1az, .int .u64 t500000_2az]⟩], [⟨true, .ints .i64 r2006001az⟩]⟩ :=
  RG ze9 [true, true, true, true, false, false] [decide (m ≥ (4 : Int)) = true, decide (m ≥ (4 : Int)) = true, decide (m ≥ (4 : Int)) = true, decide (m ≥ (4 : Int)) = true, (r2 == (0 : Int)) = false, inR (m + (1 : Int)), decide (r10 < (2 : Int)) = false] (PA (decide_eq_true h1) (PA (decide_eq_true h1) (PA (decide_eq_true h1) (PA (decide_eq_true h1) (PA (beq_false_of_ne h8) (PA ⟨(by omega), h9⟩ (PA (decide_eq_false h50) trivial))))))) (PC c6 (PC c14 (PC c53 (PC c59 PN)))) (LC l79 LN)
theorem z85 : X.ft F.z4g = some Tryz.f120 := by kernel_rfl
theorem zz6 {m : Int} {c : List Int} {a h n1 : Int} {xs2 c3 : List Int} {a4 h5 : Int} (c6 : Runs X F.zh [.ptr 500000 0, iD m] [⟨true, .var [.immI .u8 c, iD a, .int .u64 h]⟩] ⟨.agg [iD n1, .rsl 600000 0 xs2.length], [some ⟨true, .var [.immI .u8 c3, iD a4, .int .u64 h5]⟩], [⟨true, .ints .i64 xs2⟩]⟩) {r7 : Int} {c8 : List Int} {a9 h10 : Int} (c11 : Runs X F.z5 [.ptr 500000 0, iD 14] [⟨true, .var [.immI .u8 c3, iD a4, .int .u64 h5]⟩] ⟨iD r7, [some ⟨true, .var [.immI .u8 c8, iD a9, .int .u64 h10]⟩], []⟩) (h12 : r7 > (0 : Int)) : Runs X F.z4g [.ptr 500000 0, iD m] [⟨true, .var [.immI .u8 c, iD a, .int .u64 h]⟩] ⟨.agg [iD n1, .rsl 600000 0 xs2.length], [some ⟨true, .var [.immI .u8 c8, iD a9, .int .u64 h10]⟩], [⟨true, .ints .i64 xs2⟩]⟩ :=
  RG z85 [true] [decide (r7 > (0 : Int)) = true] (PA (decide_eq_true h12) trivial) (PC c6 (PC c11 PN)) LN
theorem zz7 {m : Int} {c : List Int} {a h n1 : Int} {xs2 c3 : List Int} {a4 h5 : Int} (c6 : Runs X F.zh [.ptr 500000 0, iD m] [⟨true, .var [.immI .u8 c, iD a, .int .u64 h]⟩] ⟨.agg [iD n1, .rsl 600000 0 xs2.length], [some ⟨true, .var [.immI .u8 c3, iD a4, .int .u64 h5]⟩], [⟨true, .ints .i64 xs2⟩]⟩) {r7 : Int} {c8 : List Int} {a9 h10 : Int} (c11 : Runs X F.z5 [.ptr 500000 0, iD 14] [⟨true, .var [.immI .u8 c3, iD a4, .int .u64 h5]⟩] ⟨iD r7, [some ⟨true, .var [.immI .u8 c8, iD a9, .int .u64 h10]⟩], []⟩) (h13 : ¬r7 > (0 : Int)) {r14 : Int} {c15 : List Int} {a16 h17 : Int} (c18 : Runs X F.z5 [.ptr 500000 0, iD 4] [⟨true, .var [.immI .u8 c8, iD a9, .int .u64 h10]⟩] ⟨iD r14, [some ⟨true, .var [.immI .u8 c15, iD a16, .int .u64 h17]⟩], []⟩) (h19 : r14 = 0) (h20 : (-9223372036854775808 : Int) ≤ n1 + (1 : Int)) (h21 : n1 + (1 : Int) ≤ (9223372036854775807 : Int)) {r22 : Int} {c23 : List Int} {a24 h25 : Int} {ys26 : List Int} (c27 : Runs X F.z3p [.ptr 500000 0, .rsl 500001 0 3] [⟨true, .var [.immI .u8 c15, iD a16, .int .u64 h17]⟩, ⟨true, .ints .i64 ([(-1 : Int), (9 : Int)] ++ [n1 + (1 : Int)])⟩] ⟨iD r22, [some ⟨true, .var [.immI .u8 c23, iD a24, .int .u64 h25]⟩, some ⟨true, .ints .i64 ys26⟩], []⟩) : Runs X F.z4g [.ptr 500000 0, iD m] [⟨true, .var [.immI .u8 c, iD a, .int .u64 h]⟩] ⟨.agg [iD r22, .rsl 600000 0 xs2.length], [some ⟨true, .var [.immI .u8 c23, iD a24, .int .u64 h25]⟩], [⟨true, .ints .i64 xs2⟩]⟩ :=
  RG z85 [false, true] [decide (r7 > (0 : Int)) = false, (r14 == (0 : Int)) = true, inR (n1 + (1 : Int))] (PA (decide_eq_false h13) (PA (beq_iff_eq.2 h19) (PA ⟨h20, h21⟩ trivial))) (PC c6 (PC c11 (PC c18 (PC c27 PN)))) LN
theorem zz8 {m : Int} {c : List Int} {a h n1 : Int} {xs2 c3 : List Int} {a4 h5 : Int} (c6 : Runs X F.zh [.ptr 500000 0, iD m] [⟨true, .var [.immI .u8 c, iD a, .int .u64 h]⟩] ⟨.agg [iD n1, .rsl 600000 0 xs2.length], [some ⟨true, .var [.immI .u8 c3, iD a4, .int .u64 h5]⟩], [⟨true, .ints .i64 xs2⟩]⟩) {r7 : Int} {c8 : List Int} {a9 h10 : Int} (c11 : Runs X F.z5 [.ptr 500000 0, iD 14] [⟨true, .var [.immI .u8 c3, iD a4, .int .u64 h5]⟩] ⟨iD r7, [some ⟨true, .var [.immI .u8 c8, iD a9, .int .u64 h10]⟩], []⟩) (h13 : ¬r7 > (0 : Int)) {r14 : Int} {c15 : List Int} {a16 h17 : Int} (c18 : Runs X F.z5 [.ptr 500000 0, iD 4] [⟨true, .var [.immI .u8 c8, iD a9, .int .u64 h10]⟩] ⟨iD r14, [some ⟨true, .var [.immI .u8 c15, iD a16, .int .u64 h17]⟩], []⟩) (h28 : ¬r14 = 0) (h29 : r14 = 1) {r30 : Int} {c31 : List Int} {a32 h33 : Int} {ys34 : List Int} (c35 : Runs X F.z3p [.ptr 500000 0, .rsl 500001 0 3] [⟨true, .var [.immI .u8 c15, iD a16, .int .u64 h17]⟩, ⟨true, .ints .i64 [(0 : Int), (1 : Int), (255 : Int)]⟩] ⟨iD r30, [some ⟨true, .var [.immI .u8 c31, iD a32, .int .u64 h33]⟩, some ⟨true, .ints .i64 ys34⟩], []⟩) (h36 : xs2.length + 1 ≤ 1099511627776) : Runs X F.z4g [.ptr 500000 0, iD m] [⟨true, .var [.immI .u8 c, iD a, .int .u64 h]⟩] ⟨.agg [iD n1, .rsl 600000 0 (xs2 ++ [r30]).length], [some ⟨true, .var [.immI .u8 c31, iD a32, .int .u64 h33]⟩], [⟨true, .ints .i64 (xs2 ++ [r30])⟩]⟩ :=
  RG z85 [false, false, true, true, true] [decide (r7 > (0 : Int)) = false, (r14 == (0 : Int)) = false, (r14 == (1 : Int)) = true, 0 + xs2.length = xs2.length ∧ xs2.length + 1 ≤ 1099511627776, 0 = 0 ∧ xs2.length = xs2.length] (PA (decide_eq_false h13) (PA (beq_false_of_ne h28) (PA (beq_iff_eq.2 h29) (PA ⟨(by first | omega | (simp; done) | (simp at *; omega)), h36⟩ (PA ⟨(by first | omega | (simp; done) | (simp at *; omega)), (by omega)⟩ trivial))))) (PC c6 (PC c11 (PC c18 (PC c35 PN)))) LN
theorem zz9 {m : Int} {c : List Int} {a h n1 : Int} {xs2 c3 : List Int} {a4 h5 : Int} (c6 : Runs X F.zh [.ptr 500000 0, iD m] [⟨true, .var [.immI .u8 c, iD a, .int .u64 h]⟩] ⟨.agg [iD n1, .rsl 600000 0 xs2.length], [some ⟨true, .var [.immI .u8 c3, iD a4, .int .u64 h5]⟩], [⟨true, .ints .i64 xs2⟩]⟩) {r7 : Int} {c8 : List Int} {a9 h10 : Int} (c11 : Runs X F.z5 [.ptr 500000 0, iD 14] [⟨true, .var [.immI .u8 c3, iD a4, .int .u64 h5]⟩] ⟨iD r7, [some ⟨true, .var [.immI .u8 c8, iD a9, .int .u64 h10]⟩], []⟩) (h13 : ¬r7 > (0 : Int)) {r14 : Int} {c15 : List Int} {a16 h17 : Int} (c18 : Runs X F.z5 [.ptr 500000 0, iD 4] [⟨true, .var [.immI .u8 c8, iD a9, .int .u64 h10]⟩] ⟨iD r14, [some ⟨true, .var [.immI .u8 c15, iD a16, .int .u64 h17]⟩], []⟩) (h28 : ¬r14 = 0) (h37 : ¬r14 = 1) (h38 : n1 > (0 : Int)) {r39 : Int} {c40 : List Int} {a41 h42 : Int} (c43 : Runs X F.z5 [.ptr 500000 0, iD n1] [⟨true, .var [.immI .u8 c15, iD a16, .int .u64 h17]⟩] ⟨iD r39, [some ⟨true, .var [.immI .u8 c40, iD a41, .int .u64 h42]⟩], []⟩) (h44 : (0 : Int) ≤ r39) (h45 : r39 < (↑xs2.length : Int)) {r46 : Int} (c47 : Runs X F.z36 [iD r39] [] (intR r46)) (h48 : (-9223372036854775808 : Int) ≤ xs2.getD (0 + r39.toNat) 0 - r46) (h49 : xs2.getD (0 + r39.toNat) 0 - r46 ≤ (9223372036854775807 : Int)) {r50 : Int} (c51 : Runs X F.z36 [iD n1] [] (intR r50)) {r52 : Int} (c53 : Runs X F.z36 [iD n1] [] (intR r52)) {r54 : Int} {c55 : List Int} {a56 h57 : Int} (c58 : Runs X F.z5 [.ptr 500000 0, iD r52] [⟨true, .var [.immI .u8 c40, iD a41, .int .u64 h42]⟩] ⟨iD r54, [some ⟨true, .var [.immI .u8 c55, iD a56, .int .u64 h57]⟩], []⟩) {r59 : Int} {c60 : List Int} {a61 h62 : Int} {ys63 : List Int} (c64 : Runs X F.z3p [.ptr 500000 0, .rsl 500001 0 4] [⟨true, .var [.immI .u8 c55, iD a56, .int .u64 h57]⟩, ⟨true, .ints .i64 ([xs2.getD (0 + r39.toNat) 0 - r46] ++ [ior (xs2.getD (0 + r39.toNat) 0) r50] ++ [r54] ++ [(-1 : Int)])⟩] ⟨iD r59, [some ⟨true, .var [.immI .u8 c60, iD a61, .int .u64 h62]⟩, some ⟨true, .ints .i64 ys63⟩], []⟩) : Runs X F.z4g [.ptr 500000 0, iD m] [⟨true, .var [.immI .u8 c, iD a, .int .u64 h]⟩] ⟨.agg [iD n1, .rsl 600000 0 xs2.length], [some ⟨true, .var [.immI .u8 c60, iD a61, .int .u64 h62]⟩], [⟨true, .ints .i64 (xs2.set (0 + r39.toNat) r59)⟩]⟩ :=
  RG z85 [false, false, false, true] [decide (r7 > (0 : Int)) = false, (r14 == (0 : Int)) = false, (r14 == (1 : Int)) = false, decide (n1 > (0 : Int)) = true, (0 : Int) ≤ r39 ∧ r39 < (↑xs2.length : Int), 0 + r39.toNat < xs2.length, inR (xs2.getD (0 + r39.toNat) 0 - r46), (0 : Int) ≤ r39 ∧ r39 < (↑xs2.length : Int), 0 + r39.toNat < xs2.length, (0 : Int) ≤ r39 ∧ r39 < (↑xs2.length : Int), 0 + r39.toNat < xs2.length] (PA (decide_eq_false h13) (PA (beq_false_of_ne h28) (PA (beq_false_of_ne h37) (PA (decide_eq_true h38) (PA ⟨h44, h45⟩ (PO (PA ⟨h48, h49⟩ (PA ⟨h44, h45⟩ (PO (PA ⟨h44, h45⟩ (PO trivial))))))))))) (PC c6 (PC c11 (PC c18 (PC c43 (PC c47 (PC c51 (PC c53 (PC c58 (PC c64 PN))))))))) LN
theorem zza {m : Int} {c : List Int} {a h n1 : Int} {xs2 c3 : List Int} {a4 h5 : Int} (c6 : Runs X F.zh [.ptr 500000 0, iD m] [⟨true, .var [.immI .u8 c, iD a, .int .u64 h]⟩] ⟨.agg [iD n1, .rsl 600000 0 xs2.length], [some ⟨true, .var [.immI .u8 c3, iD a4, .int .u64 h5]⟩], [⟨true, .ints .i64 xs2⟩]⟩) {r7 : Int} {c8 : List Int} {a9 h10 : Int} (c11 : Runs X F.z5 [.ptr 500000 0, iD 14] [⟨true, .var [.immI .u8 c3, iD a4, .int .u64 h5]⟩] ⟨iD r7, [some ⟨true, .var [.immI .u8 c8, iD a9, .int .u64 h10]⟩], []⟩) (h13 : ¬r7 > (0 : Int)) {r14 : Int} {c15 : List Int} {a16 h17 : Int} (c18 : Runs X F.z5 [.ptr 500000 0, iD 4] [⟨true, .var [.immI .u8 c8, iD a9, .int .u64 h10]⟩] ⟨iD r14, [some ⟨true, .var [.immI .u8 c15, iD a16, .int .u64 h17]⟩], []⟩) (h28 : ¬r14 = 0) (h37 : ¬r14 = 1) (h65 : ¬n1 > (0 : Int)) : Runs X F.z4g [.ptr 500000 0, iD m] [⟨true, .var [.immI .u8 c, iD a, .int .u64 h]⟩] ⟨.agg [iD n1, .rsl 600000 0 xs2.length], [some ⟨true, .var [.immI .u8 c15, iD a16, .int .u64 h17]⟩], [⟨true, .ints .i64 xs2⟩]⟩ :=
  RG z85 [false, false, false, false] [decide (r7 > (0 : Int)) = false, (r14 == (0 : Int)) = false, (r14 == (1 : Int)) = false, decide (n1 > (0 : Int)) = false] (PA (decide_eq_false h13) (PA (beq_false_of_ne h28) (PA (beq_false_of_ne h37) (PA (decide_eq_false h65) trivial)))) (PC c6 (PC c11 (PC c18 PN))) LN
end Go.PR.S

end

section
set_option maxRecDepth 20000
namespace Go.PR.S
open Go Go.PR Go.Proofs Gp
def SgW (n : Nat) (w : List Int) : Prop := ∀ x ∈ w, x ≠ 0 ∧ -(n : Int) ≤ x ∧ x ≤ n
theorem SgW.at {n : Nat} {w : List Int} (h : SgW n w) {i : Nat} (hi : i < w.length) : w.getD i 0 ≠ 0 ∧ -(n : Int) ≤ w.getD i 0 ∧ w.getD i 0 ≤ n := by
  rw [getD_lt hi]; exact h _ (List.getElem_mem hi)
abbrev iRow (xs : List Int) : Row := ⟨true, .ints .i64 xs⟩
section
variable {c : List Int} (hc : Bytes c)
include hc
theorem zrv {N : Nat} {r24 : Int} {xs22 : List Int} (hx : xs22.length = N) (hN : N ≤ 8) (hfree : Runs X F.z1i [iD N] [] ⟨.agg [iD N, .rsl 600000 0 xs22.length], [], [iRow xs22]⟩) {t : Nat} (ht : t < N) :
    ∀ (k b : Nat) (a h : Int) (xs : List Int), b + k = t → 0 ≤ a → xs.length = N → Msk xs → ∃ a' h' ys, 0 ≤ a' ∧ ys.length = N ∧ Msk ys ∧
      WpL X F.zh 2 (lb Tryz.f119 1) (z3q N N xs22 r24 t b c a h xs).st (fun o => o = (zae N N xs22 r24 t c a' h' ys).out) := by
  intro k
  induction k with
  | zero => intro b a h xs hb ha hl hm; exact ⟨a, h, xs, ha, hl, hm, zym hfree (by omega) (by omega) (by omega) rfl⟩
  | succ k ih =>
    intro b a h xs hb ha hl hm
    obtain ⟨r, a1, h1, ha1, hr0, _, _, hrun⟩ := zp hc r24 a h ha
    by_cases hr : r = 0
    · obtain ⟨ys, hy1, hy2, hy3⟩ := zv8 (n := N) (xs := xs) (x := t) (y := b) (by omega) (by omega) (by omega) hm
      rw [show xs.length = xs22.length by omega] at hy3
      obtain ⟨a', h', zs, q1, q2, q3, q4⟩ := ih (b + 1) a1 h1 ys (by omega) ha1 (by omega) hy2
      exact ⟨a', h', zs, q1, q2, q3, zyk hfree (by omega) (by omega) (by omega) hrun hr hy3 (by omega) q4⟩
    · obtain ⟨a', h', zs, q1, q2, q3, q4⟩ := ih (b + 1) a1 h1 xs (by omega) ha1 hl hm
      exact ⟨a', h', zs, q1, q2, q3, zyl hfree (by omega) (by omega) (by omega) hrun hr (by omega) q4⟩
theorem zhc {N : Nat} {r24 : Int} {xs22 : List Int} (hx : xs22.length = N) (hN : N ≤ 8) (hfree : Runs X F.z1i [iD N] [] ⟨.agg [iD N, .rsl 600000 0 xs22.length], [], [iRow xs22]⟩) :
    ∀ (k t : Nat) (a h : Int) (xs : List Int), t + k = N → 0 ≤ a → xs.length = N → Msk xs → ∃ a' h' ys, 0 ≤ a' ∧ ys.length = N ∧ Msk ys ∧
      WpL X F.zh 0 (lb Tryz.f119 0) (z6r N N xs22 r24 t c a h xs).st (fun o => o = (zad N xs22 ys c a' h').out) := by
  intro k
  induction k with
  | zero => intro t a h xs ht ha hl hm; exact ⟨a, h, xs, ha, hl, hm, zyj hfree (by omega) (by omega) rfl⟩
  | succ k ih =>
    intro t a h xs ht ha hl hm
    obtain ⟨a1, h1, ys, g1, g2, g3, g4⟩ := zrv hc (r24 := r24) hx hN hfree (t := t) (by omega) t 0 a h xs (by omega) ha hl hm
    obtain ⟨a', h', zs, q1, q2, q3, q4⟩ := ih (t + 1) a1 h1 ys (by omega) g1 g2 g3
    exact ⟨a', h', zs, q1, q2, q3, zyi hfree (by omega) (by omega) g4 (by omega) q4⟩
theorem ziu {m : Int} (h4 : 4 ≤ m) (h8 : m ≤ 8) (a h : Int) (ha : 0 ≤ a) : ∃ (n : Nat) (xs : List Int) (a' h' : Int), 0 ≤ a' ∧ n ≤ 8 ∧ xs.length = n ∧ Msk xs ∧
    Runs X F.zh [sp, iD m] [srcRow c a h] ⟨.agg [iD n, .rsl 600000 0 xs.length], [some (srcRow c a' h')], [iRow xs]⟩ := by
  obtain ⟨r, a1, h1, ha1, hr0, hr1, _, hrun⟩ := zp hc 6 a h ha
  by_cases hr : r = 0
  · refine ⟨4, [11, 7, 14, 13], a1, h1, ha1, by omega, rfl, ?_, zyf h4 hrun hr⟩
    intro x hx
    simp only [List.mem_cons, List.not_mem_nil, or_false] at hx
    rcases hx with rfl | rfl | rfl | rfl
    · exact ⟨11, rfl, by omega⟩
    · exact ⟨7, rfl, by omega⟩
    · exact ⟨14, rfl, by omega⟩
    · exact ⟨13, rfl, by omega⟩
  · obtain ⟨r2, a2, h2, ha2, hr20, hr21, _, hrun2⟩ := zp hc (m + 1) a1 h1 ha1
    have hr21 := hr21 (by omega)
    by_cases hlt : r2 < 2
    · obtain ⟨r3, a3, h3, ha3, hr30, hr31, _, hrun3⟩ := zp hc (m + 1) a2 h2 ha2
      have hr31 := hr31 (by omega)
      obtain ⟨N, rfl⟩ := Int.eq_ofNat_of_zero_le hr30
      obtain ⟨xs, hx1, hx2, hfree⟩ := ziv (n := N) (by omega)
      obtain ⟨p, a4, h4', ha4, _, hpick⟩ := z6i hc [2, 2, 3, 4] (by simp) a3 h3 ha3
      obtain ⟨a', h', ys, q1, q2, q3, q4⟩ := zhc hc (r24 := p) hx1 (by omega) hfree N 0 a4 h4' xs (by omega) ha4 hx1 hx2
      refine ⟨N, ys, a', h', q1, by omega, q2, q3, ?_⟩
      have := zyg h4 hrun hr (by omega) hrun2 hlt hrun3 hfree hpick q4
      rw [show xs.length = ys.length by omega] at this
      exact this
    · obtain ⟨N, rfl⟩ := Int.eq_ofNat_of_zero_le hr20
      obtain ⟨xs, hx1, hx2, hfree⟩ := ziv (n := N) (by omega)
      obtain ⟨p, a4, h4', ha4, _, hpick⟩ := z6i hc [2, 2, 3, 4] (by simp) a2 h2 ha2
      obtain ⟨a', h', ys, q1, q2, q3, q4⟩ := zhc hc (r24 := p) hx1 (by omega) hfree N 0 a4 h4' xs (by omega) ha4 hx1 hx2
      refine ⟨N, ys, a', h', q1, by omega, q2, q3, ?_⟩
      have := zyh h4 hrun hr (by omega) hrun2 hlt hfree hpick q4
      rw [show xs.length = ys.length by omega] at this
      exact this
theorem zv9 {m : Int} (h4 : 4 ≤ m) (h8 : m ≤ 8) (a h : Int) (ha : 0 ≤ a) : ∃ (n : Int) (xs : List Int) (a' h' : Int), 0 ≤ a' ∧ xs.length ≤ 9 ∧
    Runs X F.z4g [sp, iD m] [srcRow c a h] ⟨.agg [iD n, .rsl 600000 0 xs.length], [some (srcRow c a' h')], [iRow xs]⟩ := by
  obtain ⟨n, xs, a1, h1, ha1, hn, hx, hm, hrun⟩ := ziu hc h4 h8 a h ha
  obtain ⟨r, a2, h2, ha2, hr0, _, _, hrun2⟩ := zp hc 14 a1 h1 ha1
  by_cases hr : r > 0
  · exact ⟨n, xs, a2, h2, ha2, by omega, zz6 hrun hrun2 hr⟩
  · obtain ⟨r3, a3, h3, ha3, hr30, _, _, hrun3⟩ := zp hc 4 a2 h2 ha2
    by_cases hz : r3 = 0
    · obtain ⟨p, a4, h4', ha4, _, hpick⟩ := z6i hc [-1, 9, (n : Int) + 1] (by simp) a3 h3 ha3
      exact ⟨p, xs, a4, h4', ha4, by omega, zz7 hrun hrun2 hr hrun3 hz (by omega) (by omega) hpick⟩
    · by_cases ho : r3 = 1
      · obtain ⟨p, a4, h4', ha4, _, hpick⟩ := z6i hc [0, 1, 255] (by simp) a3 h3 ha3
        have := zz8 hrun hrun2 hr hrun3 hz ho hpick (by omega)
        exact ⟨n, xs ++ [p], a4, h4', ha4, by simp; omega, by simpa using this⟩
      · by_cases hpos : (n : Int) > 0
        · obtain ⟨r4, a4, h4', ha4, hr40, hr41, _, hrun4⟩ := zp hc n a3 h3 ha3
          have hr41 := hr41 (by omega)
          obtain ⟨q, rfl⟩ := Int.eq_ofNat_of_zero_le hr40
          obtain ⟨k, hk, hk2⟩ := hm.at (i := 0 + (q : Int).toNat) (by omega)
          have c47 := z6h (i := q) (by omega)
          have c51 := z6h (i := n) (by omega)
          obtain ⟨r5, a5, h5, ha5, _, _, _, hrun5⟩ := zp hc ((2 ^ n : Nat) : Int) a4 h4' ha4
          obtain ⟨p, a6, h6, ha6, _, hpick⟩ := z6i hc ([xs.getD (0 + (q : Int).toNat) 0 - ((2 ^ q : Nat) : Int)] ++ [ior (xs.getD (0 + (q : Int).toNat) 0) ((2 ^ n : Nat) : Int)] ++ [r5] ++ [-1]) (by simp) a5 h5 ha5
          have hp : ((2 ^ q : Nat) : Int) < 256 := by obtain ⟨k, e, hk⟩ := pow_msk (i := q) (by omega); omega
          have hp0 : (0 : Int) ≤ ((2 ^ q : Nat) : Int) := Int.natCast_nonneg _
          have := zz9 hrun hrun2 hr hrun3 hz ho hpos hrun4 hr40 (by omega) c47 (by rw [hk]; omega) (by rw [hk]; omega) c51 c51 hrun5 hpick
          exact ⟨n, xs.set (0 + (q : Int).toNat) p, a6, h6, ha6, by rw [List.length_set]; omega, by rw [List.length_set]; exact this⟩
        · exact ⟨n, xs, a3, h3, ha3, by omega, zza hrun hrun2 hr hrun3 hz ho hpos⟩
end
end Go.PR.S

end
