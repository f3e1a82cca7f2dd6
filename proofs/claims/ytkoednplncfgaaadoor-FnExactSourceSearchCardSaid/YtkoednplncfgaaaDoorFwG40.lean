/- Path lemmas (written by Vc.lean). -/
import Derived.Test.YtkoednplncfgaaaDoorFwMk
set_option linter.unusedVariables false
set_option linter.unusedSimpArgs false
section
set_option maxRecDepth 20000
open Go Go.PR Go.Proofs Go.PR.S
namespace Go.PR.S
theorem zfv : X.ft F.z49 = some Tryd.f61 := by kernel_rfl
theorem zfw {xs : List Int} {l : Int} (h1 : (-9223372036854775808 : Int) ≤ l - (↑xs.length : Int)) (h2 : l - (↑xs.length : Int) ≤ (9223372036854775807 : Int)) (h3 : l - (↑xs.length : Int) < (0 : Int)) : Runs X F.z49 [.immI .i64 xs, iD l] [] ⟨iD (-1 : Int), [], []⟩ :=
  RG zfv [true] [inR (l - (↑xs.length : Int)), decide (l - (↑xs.length : Int) < (0 : Int)) = true] (PA ⟨h1, h2⟩ (PA (decide_eq_true h3) trivial)) PN LN
theorem zfx {xs : List Int} {l : Int} (h1 : (-9223372036854775808 : Int) ≤ l - (↑xs.length : Int)) (h2 : l - (↑xs.length : Int) ≤ (9223372036854775807 : Int)) (h4 : ¬l - (↑xs.length : Int) < (0 : Int)) : Runs X F.z49 [.immI .i64 xs, iD l] [] ⟨iD (l - (↑xs.length : Int)), [], []⟩ :=
  RG zfv [false] [inR (l - (↑xs.length : Int)), decide (l - (↑xs.length : Int) < (0 : Int)) = false] (PA ⟨h1, h2⟩ (PA (decide_eq_false h4) trivial)) PN LN
theorem zbo : X.ft F.z1w = some Tryd.f52 := by kernel_rfl
theorem zqd {xss : List (List Int)} {l : Int} (h1 : (-9223372036854775808 : Int) ≤ l - (↑xss.length : Int)) (h2 : l - (↑xss.length : Int) ≤ (9223372036854775807 : Int)) (h3 : l - (↑xss.length : Int) < (0 : Int)) : Runs X F.z1w [.imm2 .i64 xss, iD l] [] ⟨iD (-1 : Int), [], []⟩ :=
  RG zbo [true] [inR (l - (↑xss.length : Int)), decide (l - (↑xss.length : Int) < (0 : Int)) = true] (PA ⟨h1, h2⟩ (PA (decide_eq_true h3) trivial)) PN LN
def z3m (xss : List (List Int)) (t1a : Int) (t5a : Nat) : LSt := ⟨mkE 27 0 [(0, .imm2 .i64 xss), (1, iD t1a), (5, iD (↑t5a : Int))], []⟩
def z90 (t1az : Int) : OutL := .ret ⟨mkE 27 0 [(1, iD t1az), (4, iD (-1 : Int))], []⟩
def z91 (t1az : Int) : OutL := .exit 0 ⟨mkE 27 0 [(1, iD t1az)], []⟩
theorem zqg {Q : Out → Prop} {xss : List (List Int)} {t1a : Int} {t5a : Nat} (h5 : (↑t5a : Int) < (↑xss.length : Int)) {r6 : Int} (c7 : Runs X F.z49 [.immI .i64 (xss.getD t5a []), iD t1a] [] (intR r6)) (h8 : r6 < (0 : Int)) (hq : Q (z90 r6).out) : wq F.z1w 0 Tryd.f52 0 (z3m xss t1a t5a) Q :=
  RS [true, true] (z90 r6) [decide ((↑t5a : Int) < (↑xss.length : Int)) = true, (0 : Int) ≤ (↑t5a : Int) ∧ (↑t5a : Int) < (↑xss.length : Int), decide (r6 < (0 : Int)) = true] (PA (decide_eq_true h5) (PA ⟨(by omega), h5⟩ (PA (decide_eq_true h8) trivial))) (PC c7 PN) LN hq
theorem zfu {Q : Out → Prop} {xss : List (List Int)} {t1a : Int} {t5a : Nat} (h5 : (↑t5a : Int) < (↑xss.length : Int)) {r6 : Int} (c7 : Runs X F.z49 [.immI .i64 (xss.getD t5a []), iD t1a] [] (intR r6)) (h9 : ¬r6 < (0 : Int)) (h10 : (↑t5a : Int) + (1 : Int) ≤ (9223372036854775807 : Int)) (hq : wq F.z1w 0 Tryd.f52 0 (z3m xss r6 (t5a + 1)) Q) : wq F.z1w 0 Tryd.f52 0 (z3m xss t1a t5a) Q :=
  RS [true, false] (.normal (z3m xss r6 (t5a + 1))) [decide ((↑t5a : Int) < (↑xss.length : Int)) = true, (0 : Int) ≤ (↑t5a : Int) ∧ (↑t5a : Int) < (↑xss.length : Int), decide (r6 < (0 : Int)) = false, inR ((↑t5a : Int) + (1 : Int))] (PA (decide_eq_true h5) (PA ⟨(by omega), h5⟩ (PA (decide_eq_false h9) (PA ⟨(by omega), h10⟩ trivial)))) (PC c7 PN) LN hq
theorem zqh {Q : Out → Prop} {xss : List (List Int)} {t1a : Int} {t5a : Nat} (h11 : ¬(↑t5a : Int) < (↑xss.length : Int)) (hq : Q (z91 t1a).out) : wq F.z1w 0 Tryd.f52 0 (z3m xss t1a t5a) Q :=
  RS [false] (z91 t1a) [decide ((↑t5a : Int) < (↑xss.length : Int)) = false] (PA (decide_eq_false h11) trivial) PN LN hq
theorem zqe {xss : List (List Int)} {l : Int} (h1 : (-9223372036854775808 : Int) ≤ l - (↑xss.length : Int)) (h2 : l - (↑xss.length : Int) ≤ (9223372036854775807 : Int)) (h4 : ¬l - (↑xss.length : Int) < (0 : Int)) {t1az : Int} (l12 : wl F.z1w 0 Tryd.f52 0 (z3m xss (l - (↑xss.length : Int)) 0) (z90 t1az)) : Runs X F.z1w [.imm2 .i64 xss, iD l] [] ⟨iD (-1 : Int), [], []⟩ :=
  RG zbo [false] [inR (l - (↑xss.length : Int)), decide (l - (↑xss.length : Int) < (0 : Int)) = false] (PA ⟨h1, h2⟩ (PA (decide_eq_false h4) trivial)) PN (LC l12 LN)
theorem zqf {xss : List (List Int)} {l : Int} (h1 : (-9223372036854775808 : Int) ≤ l - (↑xss.length : Int)) (h2 : l - (↑xss.length : Int) ≤ (9223372036854775807 : Int)) (h4 : ¬l - (↑xss.length : Int) < (0 : Int)) {t1az : Int} (l13 : wl F.z1w 0 Tryd.f52 0 (z3m xss (l - (↑xss.length : Int)) 0) (z91 t1az)) : Runs X F.z1w [.imm2 .i64 xss, iD l] [] (intR t1az) :=
  RG zbo [false] [inR (l - (↑xss.length : Int)), decide (l - (↑xss.length : Int) < (0 : Int)) = false] (PA ⟨h1, h2⟩ (PA (decide_eq_false h4) trivial)) PN (LC l13 LN)
theorem zfs : X.ft F.z64 = some Tryd.f13 := by kernel_rfl
theorem zft {n s f : Int} {xss : List (List Int)} {l r1 : Int} (c2 : Runs X F.z1w [.imm2 .i64 xss, iD l] [] (intR r1)) (h3 : r1 < (0 : Int)) : Runs X F.z64 [auD n s f xss, iD l] [] ⟨iD (-1 : Int), [], []⟩ :=
  RG zfs [true] [decide (r1 < (0 : Int)) = true] (PA (decide_eq_true h3) trivial) (PC c2 PN) LN
theorem zqc {n s f : Int} {xss : List (List Int)} {l r1 : Int} (c2 : Runs X F.z1w [.imm2 .i64 xss, iD l] [] (intR r1)) (h4 : ¬r1 < (0 : Int)) : Runs X F.z64 [auD n s f xss, iD l] [] (intR r1) :=
  RG zfs [false] [decide (r1 < (0 : Int)) = false] (PA (decide_eq_false h4) trivial) (PC c2 PN) LN
theorem zpi : X.ft F.z32 = some Tryd.f36 := by kernel_rfl
def z52 (xs ys : List Int) (t5a : Nat) : LSt := ⟨mkE 26 0 [(0, .immI .i64 xs), (1, .immI .i64 ys), (5, iD (↑t5a : Int))], []⟩
def z8s : OutL := .exit 0 ⟨mkE 26 0 [], []⟩
theorem zpk {Q : Out → Prop} {xs ys : List Int} (h2 : (↑xs.length : Int) = (↑ys.length : Int)) {t5a : Nat} (h3 : (↑t5a : Int) < (↑xs.length : Int)) (h5 : xs.getD t5a 0 = ys.getD t5a 0) (h6 : (↑t5a : Int) + (1 : Int) ≤ (9223372036854775807 : Int)) (hq : wq F.z32 0 Tryd.f36 0 (z52 xs ys (t5a + 1)) Q) : wq F.z32 0 Tryd.f36 0 (z52 xs ys t5a) Q :=
  RS [true, false] (.normal (z52 xs ys (t5a + 1))) [decide ((↑t5a : Int) < (↑xs.length : Int)) = true, (0 : Int) ≤ (↑t5a : Int) ∧ (↑t5a : Int) < (↑xs.length : Int), (0 : Int) ≤ (↑t5a : Int) ∧ (↑t5a : Int) < (↑ys.length : Int), (xs.getD t5a 0 != ys.getD t5a 0) = false, inR ((↑t5a : Int) + (1 : Int))] (PA (decide_eq_true h3) (PA ⟨(by omega), h3⟩ (PA ⟨(by omega), (by omega)⟩ (PA (bne_eq_false_iff_eq.2 h5) (PA ⟨(by omega), h6⟩ trivial))))) PN LN hq
theorem zpl {Q : Out → Prop} {xs ys : List Int} (h2 : (↑xs.length : Int) = (↑ys.length : Int)) {t5a : Nat} (h7 : ¬(↑t5a : Int) < (↑xs.length : Int)) (hq : Q (z8s).out) : wq F.z32 0 Tryd.f36 0 (z52 xs ys t5a) Q :=
  RS [false] (z8s) [decide ((↑t5a : Int) < (↑xs.length : Int)) = false] (PA (decide_eq_false h7) trivial) PN LN hq
theorem zpj {xs ys : List Int} (h2 : (↑xs.length : Int) = (↑ys.length : Int)) (l9 : wl F.z32 0 Tryd.f36 0 (z52 xs ys 0) z8s) : Runs X F.z32 [.immI .i64 xs, .immI .i64 ys] [] (boolR true) :=
  RG zpi [false] [((↑xs.length : Int) != (↑ys.length : Int)) = false] (PA (bne_eq_false_iff_eq.2 h2) trivial) PN (LC l9 LN)
theorem zpe : X.ft F.z2d = some Tryd.f43 := by kernel_rfl
def z51 (xs ys : List (List Int)) (t5a : Nat) : LSt := ⟨mkE 27 0 [(0, .imm2 .i64 xs), (1, .imm2 .i64 ys), (5, iD (↑t5a : Int))], []⟩
def z8r : OutL := .exit 0 ⟨mkE 27 0 [], []⟩
theorem zpg {Q : Out → Prop} {xs ys : List (List Int)} (h2 : (↑xs.length : Int) = (↑ys.length : Int)) {t5a : Nat} (h3 : (↑t5a : Int) < (↑xs.length : Int)) {b4 : Bool} (c5 : Runs X F.z32 [.immI .i64 (xs.getD t5a []), .immI .i64 (ys.getD t5a [])] [] (boolR b4)) (h7 : b4 = true) (h8 : (↑t5a : Int) + (1 : Int) ≤ (9223372036854775807 : Int)) (hq : wq F.z2d 0 Tryd.f43 0 (z51 xs ys (t5a + 1)) Q) : wq F.z2d 0 Tryd.f43 0 (z51 xs ys t5a) Q :=
  RS [true, false] (.normal (z51 xs ys (t5a + 1))) [decide ((↑t5a : Int) < (↑xs.length : Int)) = true, (0 : Int) ≤ (↑t5a : Int) ∧ (↑t5a : Int) < (↑xs.length : Int), (0 : Int) ≤ (↑t5a : Int) ∧ (↑t5a : Int) < (↑ys.length : Int), (!b4) = false, inR ((↑t5a : Int) + (1 : Int))] (PA (decide_eq_true h3) (PA ⟨(by omega), h3⟩ (PA ⟨(by omega), (by omega)⟩ (PA (not_f h7) (PA ⟨(by omega), h8⟩ trivial))))) (PC c5 PN) LN hq
theorem zph {Q : Out → Prop} {xs ys : List (List Int)} (h2 : (↑xs.length : Int) = (↑ys.length : Int)) {t5a : Nat} (h9 : ¬(↑t5a : Int) < (↑xs.length : Int)) (hq : Q (z8r).out) : wq F.z2d 0 Tryd.f43 0 (z51 xs ys t5a) Q :=
  RS [false] (z8r) [decide ((↑t5a : Int) < (↑xs.length : Int)) = false] (PA (decide_eq_false h9) trivial) PN LN hq
theorem zpf {xs ys : List (List Int)} (h2 : (↑xs.length : Int) = (↑ys.length : Int)) (l11 : wl F.z2d 0 Tryd.f43 0 (z51 xs ys 0) z8r) : Runs X F.z2d [.imm2 .i64 xs, .imm2 .i64 ys] [] (boolR true) :=
  RG zpe [false] [((↑xs.length : Int) != (↑ys.length : Int)) = false] (PA (bne_eq_false_iff_eq.2 h2) trivial) PN (LC l11 LN)
theorem zpc : X.ft F.z8q = some Tryd.f17 := by kernel_rfl
theorem zpd {n s : Int} {f n2 : Int} {s2 f2 : Int} {xss yss : List (List Int)} (h2 : n = n2) (h4 : s = s2) (h6 : f = f2) {b7 : Bool} (c8 : Runs X F.z2d [.imm2 .i64 xss, .imm2 .i64 yss] [] (boolR b7)) (h10 : b7 = true) : Runs X F.z8q [auD n s f xss, auD n2 s2 f2 yss] [] (boolR true) :=
  RG zpc [false, false, false, false] [(n != n2) = false, (s != s2) = false, (f != f2) = false, (!b7) = false] (PA (bne_eq_false_iff_eq.2 h2) (PA (bne_eq_false_iff_eq.2 h4) (PA (bne_eq_false_iff_eq.2 h6) (PA (not_f h10) trivial)))) (PC c8 PN) LN
theorem zqq : X.ft F.z35 = some Tryd.f33 := by kernel_rfl
def z57 (xs : List Int) (t4a : Nat) (r3a : List Int) : LSt := ⟨mkE 22 0 [(0, .immI .i64 xs), (3, .rsl 3 0 xs.length), (4, iD (↑t4a : Int))], [(3, ⟨true, .ints .i64 r3a⟩)]⟩
def z93 (xs r3az : List Int) : OutL := .exit 0 ⟨mkE 22 0 [(3, .rsl 3 0 xs.length)], [(3, ⟨true, .ints .i64 r3az⟩)]⟩
theorem zqs {Q : Out → Prop} {xs : List Int} (h1 : (↑xs.length : Int) ≤ (↑1099511627776 : Int)) {t4a : Nat} {r3a : List Int} (e2 : r3a.length = xs.length) (h3 : (↑t4a : Int) < (↑xs.length : Int)) (hq : wq F.z35 0 Tryd.f33 0 (z57 xs (t4a + 1) (r3a.set (0 + t4a) (xs.getD t4a 0))) Q) : wq F.z35 0 Tryd.f33 0 (z57 xs t4a r3a) Q :=
  RS [true] (.normal (z57 xs (t4a + 1) (r3a.set (0 + t4a) (xs.getD t4a 0)))) [decide ((↑t4a : Int) < (↑xs.length : Int)) = true, (0 : Int) ≤ (↑t4a : Int) ∧ (↑t4a : Int) < (↑xs.length : Int), (0 : Int) ≤ (↑t4a : Int) ∧ (↑t4a : Int) < (↑xs.length : Int), 0 + t4a < r3a.length, inR ((↑t4a : Int) + (1 : Int))] (PA (decide_eq_true h3) (PA ⟨(by omega), h3⟩ (PA ⟨(by omega), h3⟩ (PO (PA ⟨(by omega), (by first | omega | (simp; done) | (simp at *; omega))⟩ trivial))))) PN LN hq
theorem zqt {Q : Out → Prop} {xs : List Int} (h1 : (↑xs.length : Int) ≤ (↑1099511627776 : Int)) {t4a : Nat} {r3a : List Int} (e2 : r3a.length = xs.length) (h4 : ¬(↑t4a : Int) < (↑xs.length : Int)) (hq : Q (z93 xs r3a).out) : wq F.z35 0 Tryd.f33 0 (z57 xs t4a r3a) Q :=
  RS [false] (z93 xs r3a) [decide ((↑t4a : Int) < (↑xs.length : Int)) = false] (PA (decide_eq_false h4) trivial) PN LN hq
theorem zqr {xs : List Int} (h1 : (↑xs.length : Int) ≤ (↑1099511627776 : Int)) {r3az : List Int} (l5 : wl F.z35 0 Tryd.f33 0 (z57 xs 0 (List.replicate xs.length (0 : Int))) (z93 xs r3az)) : Runs X F.z35 [.immI .i64 xs] [] ⟨.rsl 600000 0 xs.length, [], [⟨true, .ints .i64 r3az⟩]⟩ :=
  RG zqq [] [(0 : Int) ≤ (↑xs.length : Int) ∧ (↑xs.length : Int) ≤ (↑xs.length : Int) ∧ (↑xs.length : Int) ≤ (↑1099511627776 : Int)] (PA ⟨(by omega), ⟨(by omega), h1⟩⟩ trivial) PN (LC l5 LN)
theorem zqm : X.ft F.z3n = some Tryd.f56 := by kernel_rfl
def z56 (xss : List (List Int)) (t4a : Nat) (r3a : List (List Int)) : LSt := ⟨mkE 23 0 [(0, .imm2 .i64 xss), (3, .nsl 3 xss.length), (4, iD (↑t4a : Int))], [(3, ⟨true, .nest .i64 r3a⟩)]⟩
def z92 (xss r3az : List (List Int)) : OutL := .exit 0 ⟨mkE 23 0 [(3, .nsl 3 xss.length)], [(3, ⟨true, .nest .i64 r3az⟩)]⟩
theorem zqo {Q : Out → Prop} {xss : List (List Int)} (h1 : (↑xss.length : Int) ≤ (↑1099511627776 : Int)) {t4a : Nat} {r3a : List (List Int)} (e2 : r3a.length = xss.length) (h3 : (↑t4a : Int) < (↑xss.length : Int)) {xs4 : List Int} (c5 : Runs X F.z35 [.immI .i64 (xss.getD t4a [])] [] (rowR xs4)) (hq : wq F.z3n 0 Tryd.f56 0 (z56 xss (t4a + 1) (r3a.set t4a xs4)) Q) : wq F.z3n 0 Tryd.f56 0 (z56 xss t4a r3a) Q :=
  RS [true] (.normal (z56 xss (t4a + 1) (r3a.set t4a xs4))) [decide ((↑t4a : Int) < (↑xss.length : Int)) = true, (0 : Int) ≤ (↑t4a : Int) ∧ (↑t4a : Int) < (↑xss.length : Int), (0 : Int) ≤ (↑t4a : Int) ∧ (↑t4a : Int) < (↑xss.length : Int), t4a < r3a.length, xs4.length = xs4.length, inR ((↑t4a : Int) + (1 : Int))] (PA (decide_eq_true h3) (PA ⟨(by omega), h3⟩ (PA ⟨(by omega), h3⟩ (PO (PO (PA ⟨(by omega), (by first | omega | (simp; done) | (simp at *; omega))⟩ trivial)))))) (PC c5 PN) LN hq
theorem zqp {Q : Out → Prop} {xss : List (List Int)} (h1 : (↑xss.length : Int) ≤ (↑1099511627776 : Int)) {t4a : Nat} {r3a : List (List Int)} (e2 : r3a.length = xss.length) (h6 : ¬(↑t4a : Int) < (↑xss.length : Int)) (hq : Q (z92 xss r3a).out) : wq F.z3n 0 Tryd.f56 0 (z56 xss t4a r3a) Q :=
  RS [false] (z92 xss r3a) [decide ((↑t4a : Int) < (↑xss.length : Int)) = false] (PA (decide_eq_false h6) trivial) PN LN hq
theorem zqn {xss : List (List Int)} (h1 : (↑xss.length : Int) ≤ (↑1099511627776 : Int)) {r3az : List (List Int)} (l7 : wl F.z3n 0 Tryd.f56 0 (z56 xss 0 (List.replicate xss.length [])) (z92 xss r3az)) : Runs X F.z3n [.imm2 .i64 xss] [] ⟨.nsl 600000 xss.length, [], [⟨true, .nest .i64 r3az⟩]⟩ :=
  RG zqm [] [(0 : Int) ≤ (↑xss.length : Int) ∧ (↑xss.length : Int) ≤ (↑xss.length : Int) ∧ (↑xss.length : Int) ≤ (↑1099511627776 : Int)] (PA ⟨(by omega), ⟨(by omega), h1⟩⟩ trivial) PN (LC l7 LN)
theorem zqk : X.ft F.z55 = some Tryd.f15 := by kernel_rfl
theorem zql {n s f : Int} {xss xss1 : List (List Int)} (c2 : Runs X F.z3n [.imm2 .i64 xss] [] ⟨.nsl 600000 xss1.length, [], [⟨true, .nest .i64 xss1⟩]⟩) : Runs X F.z55 [auD n s f xss] [] ⟨.agg [iD n, iD s, iD f, .nsl 600000 xss1.length], [], [⟨true, .nest .i64 xss1⟩]⟩ :=
  RG zqk [] [] trivial (PC c2 PN) LN
theorem zq2 : X.ft F.z1d = some Tryd.f98 := by kernel_rfl
def z62 (xss : List (List Int)) (j : Nat) (t1a : Int) (t5a : Nat) (r500000a : List (List Int)) : LSt := ⟨mkE 19 0 [(0, .nel 500000 j (xss.getD j []).length), (1, iD t1a), (5, iD (↑t5a : Int))], [(500000, ⟨true, .nest .i64 r500000a⟩)]⟩
def z8y (t1az : Int) (r500000az : List (List Int)) : OutL := .exit 0 ⟨mkE 19 0 [(1, iD t1az)], [(500000, ⟨true, .nest .i64 r500000az⟩)]⟩
theorem zq4 {Q : Out → Prop} {xss : List (List Int)} {j : Nat} {t1a : Int} {t5a : Nat} {r500000a : List (List Int)} (h1 : (↑t5a : Int) < (↑(xss.getD j []).length : Int)) (h2 : j < r500000a.length) (h3 : t5a < (r500000a.getD j []).length) (h4 : (-9223372036854775808 : Int) ≤ t1a + (1 : Int)) (h5 : t1a + (1 : Int) ≤ (9223372036854775807 : Int)) (h6 : (↑t5a : Int) + (1 : Int) ≤ (9223372036854775807 : Int)) (hq : wq F.z1d 0 Tryd.f98 0 (z62 xss j (t1a + (1 : Int)) (t5a + 1) (r500000a.set j ((r500000a.getD j []).set t5a t1a))) Q) : wq F.z1d 0 Tryd.f98 0 (z62 xss j t1a t5a r500000a) Q :=
  RS [true] (.normal (z62 xss j (t1a + (1 : Int)) (t5a + 1) (r500000a.set j ((r500000a.getD j []).set t5a t1a)))) [decide ((↑t5a : Int) < (↑(xss.getD j []).length : Int)) = true, (0 : Int) ≤ (↑t5a : Int) ∧ (↑t5a : Int) < (↑(xss.getD j []).length : Int), j < r500000a.length, t5a < (r500000a.getD j []).length, inR (t1a + (1 : Int)), inR ((↑t5a : Int) + (1 : Int))] (PA (decide_eq_true h1) (PA ⟨(by omega), h1⟩ (PA h2 (PA h3 (PA ⟨h4, h5⟩ (PA ⟨(by omega), h6⟩ trivial)))))) PN LN hq
theorem zq5 {Q : Out → Prop} {xss : List (List Int)} {j : Nat} {t1a : Int} {t5a : Nat} {r500000a : List (List Int)} (h7 : ¬(↑t5a : Int) < (↑(xss.getD j []).length : Int)) (hq : Q (z8y t1a r500000a).out) : wq F.z1d 0 Tryd.f98 0 (z62 xss j t1a t5a r500000a) Q :=
  RS [false] (z8y t1a r500000a) [decide ((↑t5a : Int) < (↑(xss.getD j []).length : Int)) = false] (PA (decide_eq_false h7) trivial) PN LN hq
theorem zq3 {xss : List (List Int)} {j : Nat} {k t1az : Int} {r500000az : List (List Int)} (l8 : wl F.z1d 0 Tryd.f98 0 (z62 xss j k 0 xss) (z8y t1az r500000az)) : Runs X F.z1d [.nel 500000 j (xss.getD j []).length, iD k] [⟨true, .nest .i64 xss⟩] ⟨iD t1az, [some ⟨true, .nest .i64 r500000az⟩], []⟩ :=
  RG zq2 [] [] trivial PN (LC l8 LN)
theorem zpy : X.ft F.z34 = some Tryd.f46 := by kernel_rfl
def z61 (xss : List (List Int)) (t1a : Int) (t5a : Nat) (r500000a : List (List Int)) : LSt := ⟨mkE 19 0 [(0, .nsl 500000 xss.length), (1, iD t1a), (5, iD (↑t5a : Int))], [(500000, ⟨true, .nest .i64 r500000a⟩)]⟩
def z8x (t1az : Int) (r500000az : List (List Int)) : OutL := .exit 0 ⟨mkE 19 0 [(1, iD t1az)], [(500000, ⟨true, .nest .i64 r500000az⟩)]⟩
theorem zq0 {Q : Out → Prop} {xss : List (List Int)} {t1a : Int} {t5a : Nat} {r500000a : List (List Int)} (e1 : r500000a.length = xss.length) (h2 : (↑t5a : Int) < (↑xss.length : Int)) {r3 : Int} {xss4 : List (List Int)} (c5 : Runs X F.z1d [.nel 500000 t5a (r500000a.getD t5a []).length, iD t1a] [⟨true, .nest .i64 r500000a⟩] ⟨iD r3, [some ⟨true, .nest .i64 xss4⟩], []⟩) (h6 : (↑t5a : Int) + (1 : Int) ≤ (9223372036854775807 : Int)) (hq : wq F.z34 0 Tryd.f46 0 (z61 xss r3 (t5a + 1) xss4) Q) : wq F.z34 0 Tryd.f46 0 (z61 xss t1a t5a r500000a) Q :=
  RS [true] (.normal (z61 xss r3 (t5a + 1) xss4)) [decide ((↑t5a : Int) < (↑xss.length : Int)) = true, (0 : Int) ≤ (↑t5a : Int) ∧ (↑t5a : Int) < (↑xss.length : Int), t5a < r500000a.length, inR ((↑t5a : Int) + (1 : Int))] (PA (decide_eq_true h2) (PA ⟨(by omega), h2⟩ (PO (PA ⟨(by omega), h6⟩ trivial)))) (PC c5 PN) LN hq
theorem zq1 {Q : Out → Prop} {xss : List (List Int)} {t1a : Int} {t5a : Nat} {r500000a : List (List Int)} (e1 : r500000a.length = xss.length) (h7 : ¬(↑t5a : Int) < (↑xss.length : Int)) (hq : Q (z8x t1a r500000a).out) : wq F.z34 0 Tryd.f46 0 (z61 xss t1a t5a r500000a) Q :=
  RS [false] (z8x t1a r500000a) [decide ((↑t5a : Int) < (↑xss.length : Int)) = false] (PA (decide_eq_false h7) trivial) PN LN hq
theorem zpz {xss : List (List Int)} {k t1az : Int} {r500000az : List (List Int)} (l8 : wl F.z34 0 Tryd.f46 0 (z61 xss k 0 xss) (z8x t1az r500000az)) : Runs X F.z34 [.nsl 500000 xss.length, iD k] [⟨true, .nest .i64 xss⟩] ⟨iD t1az, [some ⟨true, .nest .i64 r500000az⟩], []⟩ :=
  RG zpy [] [] trivial PN (LC l8 LN)
theorem zpw : X.ft F.z8w = some Tryd.f45 := by kernel_rfl
theorem zpx {n s f : Int} {xss : List (List Int)} {k r1 : Int} {xss2 : List (List Int)} (c3 : Runs X F.z34 [.nsl 500000 xss.length, iD k] [⟨true, .nest .i64 xss⟩] ⟨iD r1, [some ⟨true, .nest .i64 xss2⟩], []⟩) : Runs X F.z8w [.agg [iD n, iD s, iD f, .nsl 500000 xss.length], iD k] [⟨true, .nest .i64 xss⟩] ⟨iD r1, [none], []⟩ :=
  RG zpw [] [] trivial (PC c3 PN) LN
end Go.PR.S

end

section
set_option maxRecDepth 20000
open Go Go.PR Go.Proofs Go.PR.S
namespace Go.PR.S
theorem zq6 : X.ft F.z1d = some Tryd.f98 := by kernel_rfl
def z63 (xs : List Int) (t1a : Int) (t5a : Nat) (r500000a : List Int) : LSt := ⟨mkE 19 0 [(0, .rsl 500000 0 xs.length), (1, iD t1a), (5, iD (↑t5a : Int))], [(500000, ⟨true, .ints .i64 r500000a⟩)]⟩
def z8z (t1az : Int) (r500000az : List Int) : OutL := .exit 0 ⟨mkE 19 0 [(1, iD t1az)], [(500000, ⟨true, .ints .i64 r500000az⟩)]⟩
theorem zq8 {Q : Out → Prop} {xs : List Int} {t1a : Int} {t5a : Nat} {r500000a : List Int} (e1 : r500000a.length = xs.length) (h2 : (↑t5a : Int) < (↑xs.length : Int)) (h3 : (-9223372036854775808 : Int) ≤ t1a + (1 : Int)) (h4 : t1a + (1 : Int) ≤ (9223372036854775807 : Int)) (h5 : (↑t5a : Int) + (1 : Int) ≤ (9223372036854775807 : Int)) (hq : wq F.z1d 0 Tryd.f98 0 (z63 xs (t1a + (1 : Int)) (t5a + 1) (r500000a.set (0 + t5a) t1a)) Q) : wq F.z1d 0 Tryd.f98 0 (z63 xs t1a t5a r500000a) Q :=
  RS [true] (.normal (z63 xs (t1a + (1 : Int)) (t5a + 1) (r500000a.set (0 + t5a) t1a))) [decide ((↑t5a : Int) < (↑xs.length : Int)) = true, (0 : Int) ≤ (↑t5a : Int) ∧ (↑t5a : Int) < (↑xs.length : Int), 0 + t5a < r500000a.length, inR (t1a + (1 : Int)), inR ((↑t5a : Int) + (1 : Int))] (PA (decide_eq_true h2) (PA ⟨(by omega), h2⟩ (PO (PA ⟨h3, h4⟩ (PA ⟨(by omega), h5⟩ trivial))))) PN LN hq
theorem zq9 {Q : Out → Prop} {xs : List Int} {t1a : Int} {t5a : Nat} {r500000a : List Int} (e1 : r500000a.length = xs.length) (h6 : ¬(↑t5a : Int) < (↑xs.length : Int)) (hq : Q (z8z t1a r500000a).out) : wq F.z1d 0 Tryd.f98 0 (z63 xs t1a t5a r500000a) Q :=
  RS [false] (z8z t1a r500000a) [decide ((↑t5a : Int) < (↑xs.length : Int)) = false] (PA (decide_eq_false h6) trivial) PN LN hq
theorem zq7 {xs : List Int} {k t1az : Int} {r500000az : List Int} (l7 : wl F.z1d 0 Tryd.f98 0 (z63 xs k 0 xs) (z8z t1az r500000az)) : Runs X F.z1d [.rsl 500000 0 xs.length, iD k] [⟨true, .ints .i64 xs⟩] ⟨iD t1az, [some ⟨true, .ints .i64 r500000az⟩], []⟩ :=
  RG zq6 [] [] trivial PN (LC l7 LN)
theorem zpu : X.ft F.z8v = some Tryd.f44 := by kernel_rfl
theorem zpv {n : Int} {xs : List Int} {k r1 : Int} {xs2 : List Int} (c3 : Runs X F.z1d [.rsl 500000 0 xs.length, iD k] [⟨true, .ints .i64 xs⟩] ⟨iD r1, [some ⟨true, .ints .i64 xs2⟩], []⟩) : Runs X F.z8v [.agg [iD n, .rsl 500000 0 xs.length], iD k] [⟨true, .ints .i64 xs⟩] ⟨iD r1, [some ⟨true, .ints .i64 xs2⟩], []⟩ :=
  RG zpu [] [] trivial (PC c3 PN) LN
theorem zpq : X.ft F.z3l = some Tryd.f99 := by kernel_rfl
def z60 (w : List Int) (t1a : Int) (t5a : Nat) : LSt := ⟨mkE 21 0 [(0, .immI .i64 w), (1, iD t1a), (5, iD (↑t5a : Int))], []⟩
def z8u (t1az : Int) : OutL := .exit 0 ⟨mkE 21 0 [(1, iD t1az)], []⟩
theorem zps {Q : Out → Prop} {w : List Int} {t1a : Int} {t5a : Nat} (h1 : (↑t5a : Int) < (↑w.length : Int)) (h3 : w.getD t5a 0 = t1a) (h4 : (-9223372036854775808 : Int) ≤ t1a + (1 : Int)) (h5 : t1a + (1 : Int) ≤ (9223372036854775807 : Int)) (h6 : (↑t5a : Int) + (1 : Int) ≤ (9223372036854775807 : Int)) (hq : wq F.z3l 0 Tryd.f99 0 (z60 w (t1a + (1 : Int)) (t5a + 1)) Q) : wq F.z3l 0 Tryd.f99 0 (z60 w t1a t5a) Q :=
  RS [true, false] (.normal (z60 w (t1a + (1 : Int)) (t5a + 1))) [decide ((↑t5a : Int) < (↑w.length : Int)) = true, (0 : Int) ≤ (↑t5a : Int) ∧ (↑t5a : Int) < (↑w.length : Int), (w.getD t5a 0 != t1a) = false, inR (t1a + (1 : Int)), inR ((↑t5a : Int) + (1 : Int))] (PA (decide_eq_true h1) (PA ⟨(by omega), h1⟩ (PA (bne_eq_false_iff_eq.2 h3) (PA ⟨h4, h5⟩ (PA ⟨(by omega), h6⟩ trivial))))) PN LN hq
theorem zpt {Q : Out → Prop} {w : List Int} {t1a : Int} {t5a : Nat} (h7 : ¬(↑t5a : Int) < (↑w.length : Int)) (hq : Q (z8u t1a).out) : wq F.z3l 0 Tryd.f99 0 (z60 w t1a t5a) Q :=
  RS [false] (z8u t1a) [decide ((↑t5a : Int) < (↑w.length : Int)) = false] (PA (decide_eq_false h7) trivial) PN LN hq
theorem zpr {w : List Int} {k t1az : Int} (l9 : wl F.z3l 0 Tryd.f99 0 (z60 w k 0) (z8u t1az)) : Runs X F.z3l [.immI .i64 w, iD k] [] (intR t1az) :=
  RG zpq [] [] trivial PN (LC l9 LN)
end Go.PR.S

end
