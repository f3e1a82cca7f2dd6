/- Path lemmas (written by Vc.lean). -/
import Derived.Test.YtmjbhacjgjihpaaDoorFwMk
set_option linter.unusedVariables false
set_option linter.unusedSimpArgs false
set_option linter.unusedSectionVars false
set_option maxRecDepth 20000
open Go Go.PR Go.Proofs Go.PR.S
namespace Go.PR.S
theorem zbo : X.ft F.z9 = some Tryd.f26 := by kernel_rfl
theorem zj0 {xs : List Int} {l : Int} (h1 : (-9223372036854775808 : Int) ≤ l - (↑xs.length : Int)) (h2 : l - (↑xs.length : Int) ≤ (9223372036854775807 : Int)) (h3 : l - (↑xs.length : Int) < (0 : Int)) : Runs X F.z9 [.immI .i64 xs, iD l] [] ⟨iD (-1 : Int), [], []⟩ :=
  RG zbo [true] [inR (l - (↑xs.length : Int)), decide (l - (↑xs.length : Int) < (0 : Int)) = true] (PA ⟨h1, h2⟩ (PA (decide_eq_true h3) trivial)) PN LN
theorem zj1 {xs : List Int} {l : Int} (h1 : (-9223372036854775808 : Int) ≤ l - (↑xs.length : Int)) (h2 : l - (↑xs.length : Int) ≤ (9223372036854775807 : Int)) (h4 : ¬l - (↑xs.length : Int) < (0 : Int)) : Runs X F.z9 [.immI .i64 xs, iD l] [] ⟨iD (l - (↑xs.length : Int)), [], []⟩ :=
  RG zbo [false] [inR (l - (↑xs.length : Int)), decide (l - (↑xs.length : Int) < (0 : Int)) = false] (PA ⟨h1, h2⟩ (PA (decide_eq_false h4) trivial)) PN LN
theorem z84 : X.ft F.z1d = some Tryd.f28 := by kernel_rfl
theorem ziv {xss : List (List Int)} {l : Int} (h1 : (-9223372036854775808 : Int) ≤ l - (↑xss.length : Int)) (h2 : l - (↑xss.length : Int) ≤ (9223372036854775807 : Int)) (h3 : l - (↑xss.length : Int) < (0 : Int)) : Runs X F.z1d [.imm2 .i64 xss, iD l] [] ⟨iD (-1 : Int), [], []⟩ :=
  RG z84 [true] [inR (l - (↑xss.length : Int)), decide (l - (↑xss.length : Int) < (0 : Int)) = true] (PA ⟨h1, h2⟩ (PA (decide_eq_true h3) trivial)) PN LN
def z2l (xss : List (List Int)) (t1a : Int) (t5a : Nat) : LSt := ⟨mkE 27 0 [(0, .imm2 .i64 xss), (1, iD t1a), (5, iD (↑t5a : Int))], []⟩
def z5z (t1az : Int) : OutL := .ret ⟨mkE 27 0 [(1, iD t1az), (4, iD (-1 : Int))], []⟩
def z60 (t1az : Int) : OutL := .exit 0 ⟨mkE 27 0 [(1, iD t1az)], []⟩
theorem ziy {Q : Out → Prop} {xss : List (List Int)} {t1a : Int} {t5a : Nat} (h5 : (↑t5a : Int) < (↑xss.length : Int)) {r6 : Int} (c7 : Runs X F.z9 [.immI .i64 (xss.getD t5a []), iD t1a] [] (intR r6)) (h8 : r6 < (0 : Int)) (hq : Q (z5z r6).out) : wq F.z1d 0 Tryd.f28 0 (z2l xss t1a t5a) Q :=
  RS [true, true] (z5z r6) [decide ((↑t5a : Int) < (↑xss.length : Int)) = true, (0 : Int) ≤ (↑t5a : Int) ∧ (↑t5a : Int) < (↑xss.length : Int), decide (r6 < (0 : Int)) = true] (PA (decide_eq_true h5) (PA ⟨(by omega), h5⟩ (PA (decide_eq_true h8) trivial))) (PC c7 PN) LN hq
theorem zbn {Q : Out → Prop} {xss : List (List Int)} {t1a : Int} {t5a : Nat} (h5 : (↑t5a : Int) < (↑xss.length : Int)) {r6 : Int} (c7 : Runs X F.z9 [.immI .i64 (xss.getD t5a []), iD t1a] [] (intR r6)) (h9 : ¬r6 < (0 : Int)) (h10 : (↑t5a : Int) + (1 : Int) ≤ (9223372036854775807 : Int)) (hq : wq F.z1d 0 Tryd.f28 0 (z2l xss r6 (t5a + 1)) Q) : wq F.z1d 0 Tryd.f28 0 (z2l xss t1a t5a) Q :=
  RS [true, false] (.normal (z2l xss r6 (t5a + 1))) [decide ((↑t5a : Int) < (↑xss.length : Int)) = true, (0 : Int) ≤ (↑t5a : Int) ∧ (↑t5a : Int) < (↑xss.length : Int), decide (r6 < (0 : Int)) = false, inR ((↑t5a : Int) + (1 : Int))] (PA (decide_eq_true h5) (PA ⟨(by omega), h5⟩ (PA (decide_eq_false h9) (PA ⟨(by omega), h10⟩ trivial)))) (PC c7 PN) LN hq
theorem ziz {Q : Out → Prop} {xss : List (List Int)} {t1a : Int} {t5a : Nat} (h11 : ¬(↑t5a : Int) < (↑xss.length : Int)) (hq : Q (z60 t1a).out) : wq F.z1d 0 Tryd.f28 0 (z2l xss t1a t5a) Q :=
  RS [false] (z60 t1a) [decide ((↑t5a : Int) < (↑xss.length : Int)) = false] (PA (decide_eq_false h11) trivial) PN LN hq
theorem ziw {xss : List (List Int)} {l : Int} (h1 : (-9223372036854775808 : Int) ≤ l - (↑xss.length : Int)) (h2 : l - (↑xss.length : Int) ≤ (9223372036854775807 : Int)) (h4 : ¬l - (↑xss.length : Int) < (0 : Int)) {t1az : Int} (l12 : wl F.z1d 0 Tryd.f28 0 (z2l xss (l - (↑xss.length : Int)) 0) (z5z t1az)) : Runs X F.z1d [.imm2 .i64 xss, iD l] [] ⟨iD (-1 : Int), [], []⟩ :=
  RG z84 [false] [inR (l - (↑xss.length : Int)), decide (l - (↑xss.length : Int) < (0 : Int)) = false] (PA ⟨h1, h2⟩ (PA (decide_eq_false h4) trivial)) PN (LC l12 LN)
theorem zix {xss : List (List Int)} {l : Int} (h1 : (-9223372036854775808 : Int) ≤ l - (↑xss.length : Int)) (h2 : l - (↑xss.length : Int) ≤ (9223372036854775807 : Int)) (h4 : ¬l - (↑xss.length : Int) < (0 : Int)) {t1az : Int} (l13 : wl F.z1d 0 Tryd.f28 0 (z2l xss (l - (↑xss.length : Int)) 0) (z60 t1az)) : Runs X F.z1d [.imm2 .i64 xss, iD l] [] (intR t1az) :=
  RG z84 [false] [inR (l - (↑xss.length : Int)), decide (l - (↑xss.length : Int) < (0 : Int)) = false] (PA ⟨h1, h2⟩ (PA (decide_eq_false h4) trivial)) PN (LC l13 LN)
theorem zig : X.ft F.z1c = some Tryd.f12 := by kernel_rfl
def z3k (xs ys : List Int) (t5a : Nat) : LSt := ⟨mkE 26 0 [(0, .immI .i64 xs), (1, .immI .i64 ys), (5, iD (↑t5a : Int))], []⟩
def z5y : OutL := .exit 0 ⟨mkE 26 0 [], []⟩
theorem zii {Q : Out → Prop} {xs ys : List Int} (h2 : (↑xs.length : Int) = (↑ys.length : Int)) {t5a : Nat} (h3 : (↑t5a : Int) < (↑xs.length : Int)) (h5 : xs.getD t5a 0 = ys.getD t5a 0) (h6 : (↑t5a : Int) + (1 : Int) ≤ (9223372036854775807 : Int)) (hq : wq F.z1c 0 Tryd.f12 0 (z3k xs ys (t5a + 1)) Q) : wq F.z1c 0 Tryd.f12 0 (z3k xs ys t5a) Q :=
  RS [true, false] (.normal (z3k xs ys (t5a + 1))) [decide ((↑t5a : Int) < (↑xs.length : Int)) = true, (0 : Int) ≤ (↑t5a : Int) ∧ (↑t5a : Int) < (↑xs.length : Int), (0 : Int) ≤ (↑t5a : Int) ∧ (↑t5a : Int) < (↑ys.length : Int), (xs.getD t5a 0 != ys.getD t5a 0) = false, inR ((↑t5a : Int) + (1 : Int))] (PA (decide_eq_true h3) (PA ⟨(by omega), h3⟩ (PA ⟨(by omega), (by omega)⟩ (PA (bne_eq_false_iff_eq.2 h5) (PA ⟨(by omega), h6⟩ trivial))))) PN LN hq
theorem zij {Q : Out → Prop} {xs ys : List Int} (h2 : (↑xs.length : Int) = (↑ys.length : Int)) {t5a : Nat} (h7 : ¬(↑t5a : Int) < (↑xs.length : Int)) (hq : Q (z5y).out) : wq F.z1c 0 Tryd.f12 0 (z3k xs ys t5a) Q :=
  RS [false] (z5y) [decide ((↑t5a : Int) < (↑xs.length : Int)) = false] (PA (decide_eq_false h7) trivial) PN LN hq
theorem zih {xs ys : List Int} (h2 : (↑xs.length : Int) = (↑ys.length : Int)) (l9 : wl F.z1c 0 Tryd.f12 0 (z3k xs ys 0) z5y) : Runs X F.z1c [.immI .i64 xs, .immI .i64 ys] [] (boolR true) :=
  RG zig [false] [((↑xs.length : Int) != (↑ys.length : Int)) = false] (PA (bne_eq_false_iff_eq.2 h2) trivial) PN (LC l9 LN)
theorem zic : X.ft F.z2k = some Tryd.f38 := by kernel_rfl
def z3j (xs ys : List (List Int)) (t5a : Nat) : LSt := ⟨mkE 27 0 [(0, .imm2 .i64 xs), (1, .imm2 .i64 ys), (5, iD (↑t5a : Int))], []⟩
def z5x : OutL := .exit 0 ⟨mkE 27 0 [], []⟩
theorem zie {Q : Out → Prop} {xs ys : List (List Int)} (h2 : (↑xs.length : Int) = (↑ys.length : Int)) {t5a : Nat} (h3 : (↑t5a : Int) < (↑xs.length : Int)) {b4 : Bool} (c5 : Runs X F.z1c [.immI .i64 (xs.getD t5a []), .immI .i64 (ys.getD t5a [])] [] (boolR b4)) (h7 : b4 = true) (h8 : (↑t5a : Int) + (1 : Int) ≤ (9223372036854775807 : Int)) (hq : wq F.z2k 0 Tryd.f38 0 (z3j xs ys (t5a + 1)) Q) : wq F.z2k 0 Tryd.f38 0 (z3j xs ys t5a) Q :=
  RS [true, false] (.normal (z3j xs ys (t5a + 1))) [decide ((↑t5a : Int) < (↑xs.length : Int)) = true, (0 : Int) ≤ (↑t5a : Int) ∧ (↑t5a : Int) < (↑xs.length : Int), (0 : Int) ≤ (↑t5a : Int) ∧ (↑t5a : Int) < (↑ys.length : Int), (!b4) = false, inR ((↑t5a : Int) + (1 : Int))] (PA (decide_eq_true h3) (PA ⟨(by omega), h3⟩ (PA ⟨(by omega), (by omega)⟩ (PA (not_f h7) (PA ⟨(by omega), h8⟩ trivial))))) (PC c5 PN) LN hq
theorem zif {Q : Out → Prop} {xs ys : List (List Int)} (h2 : (↑xs.length : Int) = (↑ys.length : Int)) {t5a : Nat} (h9 : ¬(↑t5a : Int) < (↑xs.length : Int)) (hq : Q (z5x).out) : wq F.z2k 0 Tryd.f38 0 (z3j xs ys t5a) Q :=
  RS [false] (z5x) [decide ((↑t5a : Int) < (↑xs.length : Int)) = false] (PA (decide_eq_false h9) trivial) PN LN hq
theorem zid {xs ys : List (List Int)} (h2 : (↑xs.length : Int) = (↑ys.length : Int)) (l11 : wl F.z2k 0 Tryd.f38 0 (z3j xs ys 0) z5x) : Runs X F.z2k [.imm2 .i64 xs, .imm2 .i64 ys] [] (boolR true) :=
  RG zic [false] [((↑xs.length : Int) != (↑ys.length : Int)) = false] (PA (bne_eq_false_iff_eq.2 h2) trivial) PN (LC l11 LN)
theorem zjf : X.ft F.z11 = some Tryd.f9 := by kernel_rfl
def z3m (xs : List Int) (t4a : Nat) (r3a : List Int) : LSt := ⟨mkE 22 0 [(0, .immI .i64 xs), (3, .rsl 3 0 xs.length), (4, iD (↑t4a : Int))], [(3, ⟨true, .ints .i64 r3a⟩)]⟩
def z64 (xs r3az : List Int) : OutL := .exit 0 ⟨mkE 22 0 [(3, .rsl 3 0 xs.length)], [(3, ⟨true, .ints .i64 r3az⟩)]⟩
theorem zjh {Q : Out → Prop} {xs : List Int} (h1 : (↑xs.length : Int) ≤ (↑1099511627776 : Int)) {t4a : Nat} {r3a : List Int} (e2 : r3a.length = xs.length) (h3 : (↑t4a : Int) < (↑xs.length : Int)) (hq : wq F.z11 0 Tryd.f9 0 (z3m xs (t4a + 1) (r3a.set (0 + t4a) (xs.getD t4a 0))) Q) : wq F.z11 0 Tryd.f9 0 (z3m xs t4a r3a) Q :=
  RS [true] (.normal (z3m xs (t4a + 1) (r3a.set (0 + t4a) (xs.getD t4a 0)))) [decide ((↑t4a : Int) < (↑xs.length : Int)) = true, (0 : Int) ≤ (↑t4a : Int) ∧ (↑t4a : Int) < (↑xs.length : Int), (0 : Int) ≤ (↑t4a : Int) ∧ (↑t4a : Int) < (↑xs.length : Int), 0 + t4a < r3a.length, inR ((↑t4a : Int) + (1 : Int))] (PA (decide_eq_true h3) (PA ⟨(by omega), h3⟩ (PA ⟨(by omega), h3⟩ (PO (PA ⟨(by omega), (by first | omega | (simp; done) | (simp at *; omega))⟩ trivial))))) PN LN hq
theorem zji {Q : Out → Prop} {xs : List Int} (h1 : (↑xs.length : Int) ≤ (↑1099511627776 : Int)) {t4a : Nat} {r3a : List Int} (e2 : r3a.length = xs.length) (h4 : ¬(↑t4a : Int) < (↑xs.length : Int)) (hq : Q (z64 xs r3a).out) : wq F.z11 0 Tryd.f9 0 (z3m xs t4a r3a) Q :=
  RS [false] (z64 xs r3a) [decide ((↑t4a : Int) < (↑xs.length : Int)) = false] (PA (decide_eq_false h4) trivial) PN LN hq
theorem zjg {xs : List Int} (h1 : (↑xs.length : Int) ≤ (↑1099511627776 : Int)) {r3az : List Int} (l5 : wl F.z11 0 Tryd.f9 0 (z3m xs 0 (List.replicate xs.length (0 : Int))) (z64 xs r3az)) : Runs X F.z11 [.immI .i64 xs] [] ⟨.rsl 600000 0 xs.length, [], [⟨true, .ints .i64 r3az⟩]⟩ :=
  RG zjf [] [(0 : Int) ≤ (↑xs.length : Int) ∧ (↑xs.length : Int) ≤ (↑xs.length : Int) ∧ (↑xs.length : Int) ≤ (↑1099511627776 : Int)] (PA ⟨(by omega), ⟨(by omega), h1⟩⟩ trivial) PN (LC l5 LN)
theorem zjb : X.ft F.z2n = some Tryd.f33 := by kernel_rfl
def z3l (xss : List (List Int)) (t4a : Nat) (r3a : List (List Int)) : LSt := ⟨mkE 23 0 [(0, .imm2 .i64 xss), (3, .rsl 3 0 xss.length), (4, iD (↑t4a : Int))], [(3, ⟨true, .ints2 .i64 r3a⟩)]⟩
def z63 (xss r3az : List (List Int)) : OutL := .exit 0 ⟨mkE 23 0 [(3, .rsl 3 0 xss.length)], [(3, ⟨true, .ints2 .i64 r3az⟩)]⟩
theorem zjd {Q : Out → Prop} {xss : List (List Int)} (h1 : (↑xss.length : Int) ≤ (↑1099511627776 : Int)) {t4a : Nat} {r3a : List (List Int)} (e2 : r3a.length = xss.length) (h3 : (↑t4a : Int) < (↑xss.length : Int)) {xs4 : List Int} (c5 : Runs X F.z11 [.immI .i64 (xss.getD t4a [])] [] (rowR xs4)) (hq : wq F.z2n 0 Tryd.f33 0 (z3l xss (t4a + 1) (r3a.set (0 + t4a) xs4)) Q) : wq F.z2n 0 Tryd.f33 0 (z3l xss t4a r3a) Q :=
  RS [true, true] (.normal (z3l xss (t4a + 1) (r3a.set (0 + t4a) xs4))) [decide ((↑t4a : Int) < (↑xss.length : Int)) = true, (0 : Int) ≤ (↑t4a : Int) ∧ (↑t4a : Int) < (↑xss.length : Int), (0 : Int) ≤ (↑t4a : Int) ∧ (↑t4a : Int) < (↑xss.length : Int), 0 + xs4.length ≤ xs4.length, 0 = 0 ∧ xs4.length = xs4.length, 0 + t4a < r3a.length, inR ((↑t4a : Int) + (1 : Int))] (PA (decide_eq_true h3) (PA ⟨(by omega), h3⟩ (PA ⟨(by omega), h3⟩ (PO (PA ⟨(by first | omega | (simp; done) | (simp at *; omega)), (by omega)⟩ (PO (PA ⟨(by omega), (by first | omega | (simp; done) | (simp at *; omega))⟩ trivial))))))) (PC c5 PN) LN hq
theorem zje {Q : Out → Prop} {xss : List (List Int)} (h1 : (↑xss.length : Int) ≤ (↑1099511627776 : Int)) {t4a : Nat} {r3a : List (List Int)} (e2 : r3a.length = xss.length) (h6 : ¬(↑t4a : Int) < (↑xss.length : Int)) (hq : Q (z63 xss r3a).out) : wq F.z2n 0 Tryd.f33 0 (z3l xss t4a r3a) Q :=
  RS [false] (z63 xss r3a) [decide ((↑t4a : Int) < (↑xss.length : Int)) = false] (PA (decide_eq_false h6) trivial) PN LN hq
theorem zjc {xss : List (List Int)} (h1 : (↑xss.length : Int) ≤ (↑1099511627776 : Int)) {r3az : List (List Int)} (l7 : wl F.z2n 0 Tryd.f33 0 (z3l xss 0 (List.replicate xss.length [])) (z63 xss r3az)) : Runs X F.z2n [.imm2 .i64 xss] [] ⟨.rsl 600000 0 xss.length, [], [⟨true, .ints2 .i64 r3az⟩]⟩ :=
  RG zjb [] [(0 : Int) ≤ (↑xss.length : Int) ∧ (↑xss.length : Int) ≤ (↑xss.length : Int) ∧ (↑xss.length : Int) ≤ (↑1099511627776 : Int)] (PA ⟨(by omega), ⟨(by omega), h1⟩⟩ trivial) PN (LC l7 LN)
end Go.PR.S
