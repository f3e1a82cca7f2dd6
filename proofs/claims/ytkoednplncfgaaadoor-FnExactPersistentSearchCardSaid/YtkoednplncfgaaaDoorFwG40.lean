/- Path lemmas (written by Vc.lean). -/
import Derived.Test.YtkoednplncfgaaaDoorFwMk
set_option linter.unusedVariables false
set_option linter.unusedSimpArgs false
section
set_option maxRecDepth 20000
open Go Go.PR Go.Proofs Go.PR.S
namespace Go.PR.S
theorem zfz : X.ft F.z4g = some Tryd.f61 := by kernel_rfl
theorem zg0 {xs : List Int} {l : Int} (h1 : (-9223372036854775808 : Int) ≤ l - (↑xs.length : Int)) (h2 : l - (↑xs.length : Int) ≤ (9223372036854775807 : Int)) (h3 : l - (↑xs.length : Int) < (0 : Int)) : Runs X F.z4g [.immI .i64 xs, iD l] [] ⟨iD (-1 : Int), [], []⟩ :=
  RG zfz [true] [inR (l - (↑xs.length : Int)), decide (l - (↑xs.length : Int) < (0 : Int)) = true] (PA ⟨h1, h2⟩ (PA (decide_eq_true h3) trivial)) PN LN
theorem zg1 {xs : List Int} {l : Int} (h1 : (-9223372036854775808 : Int) ≤ l - (↑xs.length : Int)) (h2 : l - (↑xs.length : Int) ≤ (9223372036854775807 : Int)) (h4 : ¬l - (↑xs.length : Int) < (0 : Int)) : Runs X F.z4g [.immI .i64 xs, iD l] [] ⟨iD (l - (↑xs.length : Int)), [], []⟩ :=
  RG zfz [false] [inR (l - (↑xs.length : Int)), decide (l - (↑xs.length : Int) < (0 : Int)) = false] (PA ⟨h1, h2⟩ (PA (decide_eq_false h4) trivial)) PN LN
theorem zbs : X.ft F.z1t = some Tryd.f52 := by kernel_rfl
theorem zqq {xss : List (List Int)} {l : Int} (h1 : (-9223372036854775808 : Int) ≤ l - (↑xss.length : Int)) (h2 : l - (↑xss.length : Int) ≤ (9223372036854775807 : Int)) (h3 : l - (↑xss.length : Int) < (0 : Int)) : Runs X F.z1t [.imm2 .i64 xss, iD l] [] ⟨iD (-1 : Int), [], []⟩ :=
  RG zbs [true] [inR (l - (↑xss.length : Int)), decide (l - (↑xss.length : Int) < (0 : Int)) = true] (PA ⟨h1, h2⟩ (PA (decide_eq_true h3) trivial)) PN LN
def z3q (xss : List (List Int)) (t1a : Int) (t5a : Nat) : LSt := ⟨mkE 27 0 [(0, .imm2 .i64 xss), (1, iD t1a), (5, iD (↑t5a : Int))], []⟩
def z97 (t1az : Int) : OutL := .ret ⟨mkE 27 0 [(1, iD t1az), (4, iD (-1 : Int))], []⟩
def z98 (t1az : Int) : OutL := .exit 0 ⟨mkE 27 0 [(1, iD t1az)], []⟩
theorem zqt {Q : Out → Prop} {xss : List (List Int)} {t1a : Int} {t5a : Nat} (h5 : (↑t5a : Int) < (↑xss.length : Int)) {r6 : Int} (c7 : Runs X F.z4g [.immI .i64 (xss.getD t5a []), iD t1a] [] (intR r6)) (h8 : r6 < (0 : Int)) (hq : Q (z97 r6).out) : wq F.z1t 0 Tryd.f52 0 (z3q xss t1a t5a) Q :=
  RS [true, true] (z97 r6) [decide ((↑t5a : Int) < (↑xss.length : Int)) = true, (0 : Int) ≤ (↑t5a : Int) ∧ (↑t5a : Int) < (↑xss.length : Int), decide (r6 < (0 : Int)) = true] (PA (decide_eq_true h5) (PA ⟨(by omega), h5⟩ (PA (decide_eq_true h8) trivial))) (PC c7 PN) LN hq
theorem zfy {Q : Out → Prop} {xss : List (List Int)} {t1a : Int} {t5a : Nat} (h5 : (↑t5a : Int) < (↑xss.length : Int)) {r6 : Int} (c7 : Runs X F.z4g [.immI .i64 (xss.getD t5a []), iD t1a] [] (intR r6)) (h9 : ¬r6 < (0 : Int)) (h10 : (↑t5a : Int) + (1 : Int) ≤ (9223372036854775807 : Int)) (hq : wq F.z1t 0 Tryd.f52 0 (z3q xss r6 (t5a + 1)) Q) : wq F.z1t 0 Tryd.f52 0 (z3q xss t1a t5a) Q :=
  RS [true, false] (.normal (z3q xss r6 (t5a + 1))) [decide ((↑t5a : Int) < (↑xss.length : Int)) = true, (0 : Int) ≤ (↑t5a : Int) ∧ (↑t5a : Int) < (↑xss.length : Int), decide (r6 < (0 : Int)) = false, inR ((↑t5a : Int) + (1 : Int))] (PA (decide_eq_true h5) (PA ⟨(by omega), h5⟩ (PA (decide_eq_false h9) (PA ⟨(by omega), h10⟩ trivial)))) (PC c7 PN) LN hq
theorem zqu {Q : Out → Prop} {xss : List (List Int)} {t1a : Int} {t5a : Nat} (h11 : ¬(↑t5a : Int) < (↑xss.length : Int)) (hq : Q (z98 t1a).out) : wq F.z1t 0 Tryd.f52 0 (z3q xss t1a t5a) Q :=
  RS [false] (z98 t1a) [decide ((↑t5a : Int) < (↑xss.length : Int)) = false] (PA (decide_eq_false h11) trivial) PN LN hq
theorem zqr {xss : List (List Int)} {l : Int} (h1 : (-9223372036854775808 : Int) ≤ l - (↑xss.length : Int)) (h2 : l - (↑xss.length : Int) ≤ (9223372036854775807 : Int)) (h4 : ¬l - (↑xss.length : Int) < (0 : Int)) {t1az : Int} (l12 : wl F.z1t 0 Tryd.f52 0 (z3q xss (l - (↑xss.length : Int)) 0) (z97 t1az)) : Runs X F.z1t [.imm2 .i64 xss, iD l] [] ⟨iD (-1 : Int), [], []⟩ :=
  RG zbs [false] [inR (l - (↑xss.length : Int)), decide (l - (↑xss.length : Int) < (0 : Int)) = false] (PA ⟨h1, h2⟩ (PA (decide_eq_false h4) trivial)) PN (LC l12 LN)
theorem zqs {xss : List (List Int)} {l : Int} (h1 : (-9223372036854775808 : Int) ≤ l - (↑xss.length : Int)) (h2 : l - (↑xss.length : Int) ≤ (9223372036854775807 : Int)) (h4 : ¬l - (↑xss.length : Int) < (0 : Int)) {t1az : Int} (l13 : wl F.z1t 0 Tryd.f52 0 (z3q xss (l - (↑xss.length : Int)) 0) (z98 t1az)) : Runs X F.z1t [.imm2 .i64 xss, iD l] [] (intR t1az) :=
  RG zbs [false] [inR (l - (↑xss.length : Int)), decide (l - (↑xss.length : Int) < (0 : Int)) = false] (PA ⟨h1, h2⟩ (PA (decide_eq_false h4) trivial)) PN (LC l13 LN)
theorem zfw : X.ft F.z68 = some Tryd.f13 := by kernel_rfl
theorem zfx {n s f : Int} {xss : List (List Int)} {l r1 : Int} (c2 : Runs X F.z1t [.imm2 .i64 xss, iD l] [] (intR r1)) (h3 : r1 < (0 : Int)) : Runs X F.z68 [auD n s f xss, iD l] [] ⟨iD (-1 : Int), [], []⟩ :=
  RG zfw [true] [decide (r1 < (0 : Int)) = true] (PA (decide_eq_true h3) trivial) (PC c2 PN) LN
theorem zqp {n s f : Int} {xss : List (List Int)} {l r1 : Int} (c2 : Runs X F.z1t [.imm2 .i64 xss, iD l] [] (intR r1)) (h4 : ¬r1 < (0 : Int)) : Runs X F.z68 [auD n s f xss, iD l] [] (intR r1) :=
  RG zfw [false] [decide (r1 < (0 : Int)) = false] (PA (decide_eq_false h4) trivial) (PC c2 PN) LN
theorem zpv : X.ft F.z34 = some Tryd.f36 := by kernel_rfl
def z54 (xs ys : List Int) (t5a : Nat) : LSt := ⟨mkE 26 0 [(0, .immI .i64 xs), (1, .immI .i64 ys), (5, iD (↑t5a : Int))], []⟩
def z8z : OutL := .exit 0 ⟨mkE 26 0 [], []⟩
theorem zpx {Q : Out → Prop} {xs ys : List Int} (h2 : (↑xs.length : Int) = (↑ys.length : Int)) {t5a : Nat} (h3 : (↑t5a : Int) < (↑xs.length : Int)) (h5 : xs.getD t5a 0 = ys.getD t5a 0) (h6 : (↑t5a : Int) + (1 : Int) ≤ (9223372036854775807 : Int)) (hq : wq F.z34 0 Tryd.f36 0 (z54 xs ys (t5a + 1)) Q) : wq F.z34 0 Tryd.f36 0 (z54 xs ys t5a) Q :=
  RS [true, false] (.normal (z54 xs ys (t5a + 1))) [decide ((↑t5a : Int) < (↑xs.length : Int)) = true, (0 : Int) ≤ (↑t5a : Int) ∧ (↑t5a : Int) < (↑xs.length : Int), (0 : Int) ≤ (↑t5a : Int) ∧ (↑t5a : Int) < (↑ys.length : Int), (xs.getD t5a 0 != ys.getD t5a 0) = false, inR ((↑t5a : Int) + (1 : Int))] (PA (decide_eq_true h3) (PA ⟨(by omega), h3⟩ (PA ⟨(by omega), (by omega)⟩ (PA (bne_eq_false_iff_eq.2 h5) (PA ⟨(by omega), h6⟩ trivial))))) PN LN hq
theorem zpy {Q : Out → Prop} {xs ys : List Int} (h2 : (↑xs.length : Int) = (↑ys.length : Int)) {t5a : Nat} (h7 : ¬(↑t5a : Int) < (↑xs.length : Int)) (hq : Q (z8z).out) : wq F.z34 0 Tryd.f36 0 (z54 xs ys t5a) Q :=
  RS [false] (z8z) [decide ((↑t5a : Int) < (↑xs.length : Int)) = false] (PA (decide_eq_false h7) trivial) PN LN hq
theorem zpw {xs ys : List Int} (h2 : (↑xs.length : Int) = (↑ys.length : Int)) (l9 : wl F.z34 0 Tryd.f36 0 (z54 xs ys 0) z8z) : Runs X F.z34 [.immI .i64 xs, .immI .i64 ys] [] (boolR true) :=
  RG zpv [false] [((↑xs.length : Int) != (↑ys.length : Int)) = false] (PA (bne_eq_false_iff_eq.2 h2) trivial) PN (LC l9 LN)
theorem zpr : X.ft F.z2f = some Tryd.f43 := by kernel_rfl
def z53 (xs ys : List (List Int)) (t5a : Nat) : LSt := ⟨mkE 27 0 [(0, .imm2 .i64 xs), (1, .imm2 .i64 ys), (5, iD (↑t5a : Int))], []⟩
def z8y : OutL := .exit 0 ⟨mkE 27 0 [], []⟩
theorem zpt {Q : Out → Prop} {xs ys : List (List Int)} (h2 : (↑xs.length : Int) = (↑ys.length : Int)) {t5a : Nat} (h3 : (↑t5a : Int) < (↑xs.length : Int)) {b4 : Bool} (c5 : Runs X F.z34 [.immI .i64 (xs.getD t5a []), .immI .i64 (ys.getD t5a [])] [] (boolR b4)) (h7 : b4 = true) (h8 : (↑t5a : Int) + (1 : Int) ≤ (9223372036854775807 : Int)) (hq : wq F.z2f 0 Tryd.f43 0 (z53 xs ys (t5a + 1)) Q) : wq F.z2f 0 Tryd.f43 0 (z53 xs ys t5a) Q :=
  RS [true, false] (.normal (z53 xs ys (t5a + 1))) [decide ((↑t5a : Int) < (↑xs.length : Int)) = true, (0 : Int) ≤ (↑t5a : Int) ∧ (↑t5a : Int) < (↑xs.length : Int), (0 : Int) ≤ (↑t5a : Int) ∧ (↑t5a : Int) < (↑ys.length : Int), (!b4) = false, inR ((↑t5a : Int) + (1 : Int))] (PA (decide_eq_true h3) (PA ⟨(by omega), h3⟩ (PA ⟨(by omega), (by omega)⟩ (PA (not_f h7) (PA ⟨(by omega), h8⟩ trivial))))) (PC c5 PN) LN hq
theorem zpu {Q : Out → Prop} {xs ys : List (List Int)} (h2 : (↑xs.length : Int) = (↑ys.length : Int)) {t5a : Nat} (h9 : ¬(↑t5a : Int) < (↑xs.length : Int)) (hq : Q (z8y).out) : wq F.z2f 0 Tryd.f43 0 (z53 xs ys t5a) Q :=
  RS [false] (z8y) [decide ((↑t5a : Int) < (↑xs.length : Int)) = false] (PA (decide_eq_false h9) trivial) PN LN hq
theorem zps {xs ys : List (List Int)} (h2 : (↑xs.length : Int) = (↑ys.length : Int)) (l11 : wl F.z2f 0 Tryd.f43 0 (z53 xs ys 0) z8y) : Runs X F.z2f [.imm2 .i64 xs, .imm2 .i64 ys] [] (boolR true) :=
  RG zpr [false] [((↑xs.length : Int) != (↑ys.length : Int)) = false] (PA (bne_eq_false_iff_eq.2 h2) trivial) PN (LC l11 LN)
theorem zpp : X.ft F.z8x = some Tryd.f17 := by kernel_rfl
theorem zpq {n s : Int} {f n2 : Int} {s2 f2 : Int} {xss yss : List (List Int)} (h2 : n = n2) (h4 : s = s2) (h6 : f = f2) {b7 : Bool} (c8 : Runs X F.z2f [.imm2 .i64 xss, .imm2 .i64 yss] [] (boolR b7)) (h10 : b7 = true) : Runs X F.z8x [auD n s f xss, auD n2 s2 f2 yss] [] (boolR true) :=
  RG zpp [false, false, false, false] [(n != n2) = false, (s != s2) = false, (f != f2) = false, (!b7) = false] (PA (bne_eq_false_iff_eq.2 h2) (PA (bne_eq_false_iff_eq.2 h4) (PA (bne_eq_false_iff_eq.2 h6) (PA (not_f h10) trivial)))) (PC c8 PN) LN
theorem zr3 : X.ft F.z37 = some Tryd.f33 := by kernel_rfl
def z59 (xs : List Int) (t4a : Nat) (r3a : List Int) : LSt := ⟨mkE 22 0 [(0, .immI .i64 xs), (3, .rsl 3 0 xs.length), (4, iD (↑t4a : Int))], [(3, ⟨true, .ints .i64 r3a⟩)]⟩
def z9a (xs r3az : List Int) : OutL := .exit 0 ⟨mkE 22 0 [(3, .rsl 3 0 xs.length)], [(3, ⟨true, .ints .i64 r3az⟩)]⟩
theorem zr5 {Q : Out → Prop} {xs : List Int} (h1 : (↑xs.length : Int) ≤ (↑1099511627776 : Int)) {t4a : Nat} {r3a : List Int} (e2 : r3a.length = xs.length) (h3 : (↑t4a : Int) < (↑xs.length : Int)) (hq : wq F.z37 0 Tryd.f33 0 (z59 xs (t4a + 1) (r3a.set (0 + t4a) (xs.getD t4a 0))) Q) : wq F.z37 0 Tryd.f33 0 (z59 xs t4a r3a) Q :=
  RS [true] (.normal (z59 xs (t4a + 1) (r3a.set (0 + t4a) (xs.getD t4a 0)))) [decide ((↑t4a : Int) < (↑xs.length : Int)) = true, (0 : Int) ≤ (↑t4a : Int) ∧ (↑t4a : Int) < (↑xs.length : Int), (0 : Int) ≤ (↑t4a : Int) ∧ (↑t4a : Int) < (↑xs.length : Int), 0 + t4a < r3a.length, inR ((↑t4a : Int) + (1 : Int))] (PA (decide_eq_true h3) (PA ⟨(by omega), h3⟩ (PA ⟨(by omega), h3⟩ (PO (PA ⟨(by omega), (by first | omega | (simp; done) | (simp at *; omega))⟩ trivial))))) PN LN hq
theorem zr6 {Q : Out → Prop} {xs : List Int} (h1 : (↑xs.length : Int) ≤ (↑1099511627776 : Int)) {t4a : Nat} {r3a : List Int} (e2 : r3a.length = xs.length) (h4 : ¬(↑t4a : Int) < (↑xs.length : Int)) (hq : Q (z9a xs r3a).out) : wq F.z37 0 Tryd.f33 0 (z59 xs t4a r3a) Q :=
  RS [false] (z9a xs r3a) [decide ((↑t4a : Int) < (↑xs.length : Int)) = false] (PA (decide_eq_false h4) trivial) PN LN hq
theorem zr4 {xs : List Int} (h1 : (↑xs.length : Int) ≤ (↑1099511627776 : Int)) {r3az : List Int} (l5 : wl F.z37 0 Tryd.f33 0 (z59 xs 0 (List.replicate xs.length (0 : Int))) (z9a xs r3az)) : Runs X F.z37 [.immI .i64 xs] [] ⟨.rsl 600000 0 xs.length, [], [⟨true, .ints .i64 r3az⟩]⟩ :=
  RG zr3 [] [(0 : Int) ≤ (↑xs.length : Int) ∧ (↑xs.length : Int) ≤ (↑xs.length : Int) ∧ (↑xs.length : Int) ≤ (↑1099511627776 : Int)] (PA ⟨(by omega), ⟨(by omega), h1⟩⟩ trivial) PN (LC l5 LN)
theorem zqz : X.ft F.z3r = some Tryd.f56 := by kernel_rfl
def z58 (xss : List (List Int)) (t4a : Nat) (r3a : List (List Int)) : LSt := ⟨mkE 23 0 [(0, .imm2 .i64 xss), (3, .nsl 3 xss.length), (4, iD (↑t4a : Int))], [(3, ⟨true, .nest .i64 r3a⟩)]⟩
def z99 (xss r3az : List (List Int)) : OutL := .exit 0 ⟨mkE 23 0 [(3, .nsl 3 xss.length)], [(3, ⟨true, .nest .i64 r3az⟩)]⟩
theorem zr1 {Q : Out → Prop} {xss : List (List Int)} (h1 : (↑xss.length : Int) ≤ (↑1099511627776 : Int)) {t4a : Nat} {r3a : List (List Int)} (e2 : r3a.length = xss.length) (h3 : (↑t4a : Int) < (↑xss.length : Int)) {xs4 : List Int} (c5 : Runs X F.z37 [.immI .i64 (xss.getD t4a [])] [] (rowR xs4)) (hq : wq F.z3r 0 Tryd.f56 0 (z58 xss (t4a + 1) (r3a.set t4a xs4)) Q) : wq F.z3r 0 Tryd.f56 0 (z58 xss t4a r3a) Q :=
  RS [true] (.normal (z58 xss (t4a + 1) (r3a.set t4a xs4))) [decide ((↑t4a : Int) < (↑xss.length : Int)) = true, (0 : Int) ≤ (↑t4a : Int) ∧ (↑t4a : Int) < (↑xss.length : Int), (0 : Int) ≤ (↑t4a : Int) ∧ (↑t4a : Int) < (↑xss.length : Int), t4a < r3a.length, xs4.length = xs4.length, inR ((↑t4a : Int) + (1 : Int))] (PA (decide_eq_true h3) (PA ⟨(by omega), h3⟩ (PA ⟨(by omega), h3⟩ (PO (PO (PA ⟨(by omega), (by first | omega | (simp; done) | (simp at *; omega))⟩ trivial)))))) (PC c5 PN) LN hq
theorem zr2 {Q : Out → Prop} {xss : List (List Int)} (h1 : (↑xss.length : Int) ≤ (↑1099511627776 : Int)) {t4a : Nat} {r3a : List (List Int)} (e2 : r3a.length = xss.length) (h6 : ¬(↑t4a : Int) < (↑xss.length : Int)) (hq : Q (z99 xss r3a).out) : wq F.z3r 0 Tryd.f56 0 (z58 xss t4a r3a) Q :=
  RS [false] (z99 xss r3a) [decide ((↑t4a : Int) < (↑xss.length : Int)) = false] (PA (decide_eq_false h6) trivial) PN LN hq
theorem zr0 {xss : List (List Int)} (h1 : (↑xss.length : Int) ≤ (↑1099511627776 : Int)) {r3az : List (List Int)} (l7 : wl F.z3r 0 Tryd.f56 0 (z58 xss 0 (List.replicate xss.length [])) (z99 xss r3az)) : Runs X F.z3r [.imm2 .i64 xss] [] ⟨.nsl 600000 xss.length, [], [⟨true, .nest .i64 r3az⟩]⟩ :=
  RG zqz [] [(0 : Int) ≤ (↑xss.length : Int) ∧ (↑xss.length : Int) ≤ (↑xss.length : Int) ∧ (↑xss.length : Int) ≤ (↑1099511627776 : Int)] (PA ⟨(by omega), ⟨(by omega), h1⟩⟩ trivial) PN (LC l7 LN)
theorem zqx : X.ft F.z57 = some Tryd.f15 := by kernel_rfl
theorem zqy {n s f : Int} {xss xss1 : List (List Int)} (c2 : Runs X F.z3r [.imm2 .i64 xss] [] ⟨.nsl 600000 xss1.length, [], [⟨true, .nest .i64 xss1⟩]⟩) : Runs X F.z57 [auD n s f xss] [] ⟨.agg [iD n, iD s, iD f, .nsl 600000 xss1.length], [], [⟨true, .nest .i64 xss1⟩]⟩ :=
  RG zqx [] [] trivial (PC c2 PN) LN
theorem zqf : X.ft F.z1d = some Tryd.f98 := by kernel_rfl
def z66 (xss : List (List Int)) (j : Nat) (t1a : Int) (t5a : Nat) (r500000a : List (List Int)) : LSt := ⟨mkE 19 0 [(0, .nel 500000 j (xss.getD j []).length), (1, iD t1a), (5, iD (↑t5a : Int))], [(500000, ⟨true, .nest .i64 r500000a⟩)]⟩
def z95 (t1az : Int) (r500000az : List (List Int)) : OutL := .exit 0 ⟨mkE 19 0 [(1, iD t1az)], [(500000, ⟨true, .nest .i64 r500000az⟩)]⟩
theorem zqh {Q : Out → Prop} {xss : List (List Int)} {j : Nat} {t1a : Int} {t5a : Nat} {r500000a : List (List Int)} (h1 : (↑t5a : Int) < (↑(xss.getD j []).length : Int)) (h2 : j < r500000a.length) (h3 : t5a < (r500000a.getD j []).length) (h4 : (-9223372036854775808 : Int) ≤ t1a + (1 : Int)) (h5 : t1a + (1 : Int) ≤ (9223372036854775807 : Int)) (h6 : (↑t5a : Int) + (1 : Int) ≤ (9223372036854775807 : Int)) (hq : wq F.z1d 0 Tryd.f98 0 (z66 xss j (t1a + (1 : Int)) (t5a + 1) (r500000a.set j ((r500000a.getD j []).set t5a t1a))) Q) : wq F.z1d 0 Tryd.f98 0 (z66 xss j t1a t5a r500000a) Q :=
  RS [true] (.normal (z66 xss j (t1a + (1 : Int)) (t5a + 1) (r500000a.set j ((r500000a.getD j []).set t5a t1a)))) [decide ((↑t5a : Int) < (↑(xss.getD j []).length : Int)) = true, (0 : Int) ≤ (↑t5a : Int) ∧ (↑t5a : Int) < (↑(xss.getD j []).length : Int), j < r500000a.length, t5a < (r500000a.getD j []).length, inR (t1a + (1 : Int)), inR ((↑t5a : Int) + (1 : Int))] (PA (decide_eq_true h1) (PA ⟨(by omega), h1⟩ (PA h2 (PA h3 (PA ⟨h4, h5⟩ (PA ⟨(by omega), h6⟩ trivial)))))) PN LN hq
theorem zqi {Q : Out → Prop} {xss : List (List Int)} {j : Nat} {t1a : Int} {t5a : Nat} {r500000a : List (List Int)} (h7 : ¬(↑t5a : Int) < (↑(xss.getD j []).length : Int)) (hq : Q (z95 t1a r500000a).out) : wq F.z1d 0 Tryd.f98 0 (z66 xss j t1a t5a r500000a) Q :=
  RS [false] (z95 t1a r500000a) [decide ((↑t5a : Int) < (↑(xss.getD j []).length : Int)) = false] (PA (decide_eq_false h7) trivial) PN LN hq
theorem zqg {xss : List (List Int)} {j : Nat} {k t1az : Int} {r500000az : List (List Int)} (l8 : wl F.z1d 0 Tryd.f98 0 (z66 xss j k 0 xss) (z95 t1az r500000az)) : Runs X F.z1d [.nel 500000 j (xss.getD j []).length, iD k] [⟨true, .nest .i64 xss⟩] ⟨iD t1az, [some ⟨true, .nest .i64 r500000az⟩], []⟩ :=
  RG zqf [] [] trivial PN (LC l8 LN)
theorem zqb : X.ft F.z36 = some Tryd.f46 := by kernel_rfl
def z65 (xss : List (List Int)) (t1a : Int) (t5a : Nat) (r500000a : List (List Int)) : LSt := ⟨mkE 19 0 [(0, .nsl 500000 xss.length), (1, iD t1a), (5, iD (↑t5a : Int))], [(500000, ⟨true, .nest .i64 r500000a⟩)]⟩
def z94 (t1az : Int) (r500000az : List (List Int)) : OutL := .exit 0 ⟨mkE 19 0 [(1, iD t1az)], [(500000, ⟨true, .nest .i64 r500000az⟩)]⟩
theorem zqd {Q : Out → Prop} {xss : List (List Int)} {t1a : Int} {t5a : Nat} {r500000a : List (List Int)} (e1 : r500000a.length = xss.length) (h2 : (↑t5a : Int) < (↑xss.length : Int)) {r3 : Int} {xss4 : List (List Int)} (c5 : Runs X F.z1d [.nel 500000 t5a (r500000a.getD t5a []).length, iD t1a] [⟨true, .nest .i64 r500000a⟩] ⟨iD r3, [some ⟨true, .nest .i64 xss4⟩], []⟩) (h6 : (↑t5a : Int) + (1 : Int) ≤ (9223372036854775807 : Int)) (hq : wq F.z36 0 Tryd.f46 0 (z65 xss r3 (t5a + 1) xss4) Q) : wq F.z36 0 Tryd.f46 0 (z65 xss t1a t5a r500000a) Q :=
  RS [true] (.normal (z65 xss r3 (t5a + 1) xss4)) [decide ((↑t5a : Int) < (↑xss.length : Int)) = true, (0 : Int) ≤ (↑t5a : Int) ∧ (↑t5a : Int) < (↑xss.length : Int), t5a < r500000a.length, inR ((↑t5a : Int) + (1 : Int))] (PA (decide_eq_true h2) (PA ⟨(by omega), h2⟩ (PO (PA ⟨(by omega), h6⟩ trivial)))) (PC c5 PN) LN hq
theorem zqe {Q : Out → Prop} {xss : List (List Int)} {t1a : Int} {t5a : Nat} {r500000a : List (List Int)} (e1 : r500000a.length = xss.length) (h7 : ¬(↑t5a : Int) < (↑xss.length : Int)) (hq : Q (z94 t1a r500000a).out) : wq F.z36 0 Tryd.f46 0 (z65 xss t1a t5a r500000a) Q :=
  RS [false] (z94 t1a r500000a) [decide ((↑t5a : Int) < (↑xss.length : Int)) = false] (PA (decide_eq_false h7) trivial) PN LN hq
theorem zqc {xss : List (List Int)} {k t1az : Int} {r500000az : List (List Int)} (l8 : wl F.z36 0 Tryd.f46 0 (z65 xss k 0 xss) (z94 t1az r500000az)) : Runs X F.z36 [.nsl 500000 xss.length, iD k] [⟨true, .nest .i64 xss⟩] ⟨iD t1az, [some ⟨true, .nest .i64 r500000az⟩], []⟩ :=
  RG zqb [] [] trivial PN (LC l8 LN)
theorem zq9 : X.ft F.z93 = some Tryd.f45 := by kernel_rfl
theorem zqa {n s f : Int} {xss : List (List Int)} {k r1 : Int} {xss2 : List (List Int)} (c3 : Runs X F.z36 [.nsl 500000 xss.length, iD k] [⟨true, .nest .i64 xss⟩] ⟨iD r1, [some ⟨true, .nest .i64 xss2⟩], []⟩) : Runs X F.z93 [.agg [iD n, iD s, iD f, .nsl 500000 xss.length], iD k] [⟨true, .nest .i64 xss⟩] ⟨iD r1, [none], []⟩ :=
  RG zq9 [] [] trivial (PC c3 PN) LN
end Go.PR.S

end

section
set_option maxRecDepth 20000
open Go Go.PR Go.Proofs Go.PR.S
namespace Go.PR.S
theorem zqj : X.ft F.z1d = some Tryd.f98 := by kernel_rfl
def z67 (xs : List Int) (t1a : Int) (t5a : Nat) (r500000a : List Int) : LSt := ⟨mkE 19 0 [(0, .rsl 500000 0 xs.length), (1, iD t1a), (5, iD (↑t5a : Int))], [(500000, ⟨true, .ints .i64 r500000a⟩)]⟩
def z96 (t1az : Int) (r500000az : List Int) : OutL := .exit 0 ⟨mkE 19 0 [(1, iD t1az)], [(500000, ⟨true, .ints .i64 r500000az⟩)]⟩
theorem zql {Q : Out → Prop} {xs : List Int} {t1a : Int} {t5a : Nat} {r500000a : List Int} (e1 : r500000a.length = xs.length) (h2 : (↑t5a : Int) < (↑xs.length : Int)) (h3 : (-9223372036854775808 : Int) ≤ t1a + (1 : Int)) (h4 : t1a + (1 : Int) ≤ (9223372036854775807 : Int)) (h5 : (↑t5a : Int) + (1 : Int) ≤ (9223372036854775807 : Int)) (hq : wq F.z1d 0 Tryd.f98 0 (z67 xs (t1a + (1 : Int)) (t5a + 1) (r500000a.set (0 + t5a) t1a)) Q) : wq F.z1d 0 Tryd.f98 0 (z67 xs t1a t5a r500000a) Q :=
  RS [true] (.normal (z67 xs (t1a + (1 : Int)) (t5a + 1) (r500000a.set (0 + t5a) t1a))) [decide ((↑t5a : Int) < (↑xs.length : Int)) = true, (0 : Int) ≤ (↑t5a : Int) ∧ (↑t5a : Int) < (↑xs.length : Int), 0 + t5a < r500000a.length, inR (t1a + (1 : Int)), inR ((↑t5a : Int) + (1 : Int))] (PA (decide_eq_true h2) (PA ⟨(by omega), h2⟩ (PO (PA ⟨h3, h4⟩ (PA ⟨(by omega), h5⟩ trivial))))) PN LN hq
theorem zqm {Q : Out → Prop} {xs : List Int} {t1a : Int} {t5a : Nat} {r500000a : List Int} (e1 : r500000a.length = xs.length) (h6 : ¬(↑t5a : Int) < (↑xs.length : Int)) (hq : Q (z96 t1a r500000a).out) : wq F.z1d 0 Tryd.f98 0 (z67 xs t1a t5a r500000a) Q :=
  RS [false] (z96 t1a r500000a) [decide ((↑t5a : Int) < (↑xs.length : Int)) = false] (PA (decide_eq_false h6) trivial) PN LN hq
theorem zqk {xs : List Int} {k t1az : Int} {r500000az : List Int} (l7 : wl F.z1d 0 Tryd.f98 0 (z67 xs k 0 xs) (z96 t1az r500000az)) : Runs X F.z1d [.rsl 500000 0 xs.length, iD k] [⟨true, .ints .i64 xs⟩] ⟨iD t1az, [some ⟨true, .ints .i64 r500000az⟩], []⟩ :=
  RG zqj [] [] trivial PN (LC l7 LN)
theorem zq7 : X.ft F.z92 = some Tryd.f44 := by kernel_rfl
theorem zq8 {n : Int} {xs : List Int} {k r1 : Int} {xs2 : List Int} (c3 : Runs X F.z1d [.rsl 500000 0 xs.length, iD k] [⟨true, .ints .i64 xs⟩] ⟨iD r1, [some ⟨true, .ints .i64 xs2⟩], []⟩) : Runs X F.z92 [.agg [iD n, .rsl 500000 0 xs.length], iD k] [⟨true, .ints .i64 xs⟩] ⟨iD r1, [some ⟨true, .ints .i64 xs2⟩], []⟩ :=
  RG zq7 [] [] trivial (PC c3 PN) LN
theorem zq3 : X.ft F.z3p = some Tryd.f99 := by kernel_rfl
def z64 (w : List Int) (t1a : Int) (t5a : Nat) : LSt := ⟨mkE 21 0 [(0, .immI .i64 w), (1, iD t1a), (5, iD (↑t5a : Int))], []⟩
def z91 (t1az : Int) : OutL := .exit 0 ⟨mkE 21 0 [(1, iD t1az)], []⟩
theorem zq5 {Q : Out → Prop} {w : List Int} {t1a : Int} {t5a : Nat} (h1 : (↑t5a : Int) < (↑w.length : Int)) (h3 : w.getD t5a 0 = t1a) (h4 : (-9223372036854775808 : Int) ≤ t1a + (1 : Int)) (h5 : t1a + (1 : Int) ≤ (9223372036854775807 : Int)) (h6 : (↑t5a : Int) + (1 : Int) ≤ (9223372036854775807 : Int)) (hq : wq F.z3p 0 Tryd.f99 0 (z64 w (t1a + (1 : Int)) (t5a + 1)) Q) : wq F.z3p 0 Tryd.f99 0 (z64 w t1a t5a) Q :=
  RS [true, false] (.normal (z64 w (t1a + (1 : Int)) (t5a + 1))) [decide ((↑t5a : Int) < (↑w.length : Int)) = true, (0 : Int) ≤ (↑t5a : Int) ∧ (↑t5a : Int) < (↑w.length : Int), (w.getD t5a 0 != t1a) = false, inR (t1a + (1 : Int)), inR ((↑t5a : Int) + (1 : Int))] (PA (decide_eq_true h1) (PA ⟨(by omega), h1⟩ (PA (bne_eq_false_iff_eq.2 h3) (PA ⟨h4, h5⟩ (PA ⟨(by omega), h6⟩ trivial))))) PN LN hq
theorem zq6 {Q : Out → Prop} {w : List Int} {t1a : Int} {t5a : Nat} (h7 : ¬(↑t5a : Int) < (↑w.length : Int)) (hq : Q (z91 t1a).out) : wq F.z3p 0 Tryd.f99 0 (z64 w t1a t5a) Q :=
  RS [false] (z91 t1a) [decide ((↑t5a : Int) < (↑w.length : Int)) = false] (PA (decide_eq_false h7) trivial) PN LN hq
theorem zq4 {w : List Int} {k t1az : Int} (l9 : wl F.z3p 0 Tryd.f99 0 (z64 w k 0) (z91 t1az)) : Runs X F.z3p [.immI .i64 w, iD k] [] (intR t1az) :=
  RG zq3 [] [] trivial PN (LC l9 LN)
end Go.PR.S

end
