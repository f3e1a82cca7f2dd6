/- Path lemmas (written by Vc.lean). -/
import Derived.Test.YtnhklcbddcoadaaGreatDoorFwMk
import Derived.Test.YtnhklcbddcoadaaGreatDoorFwP82
import Derived.Test.YtnhklcbddcoadaaGreatDoorFwP30
set_option linter.unusedVariables false
set_option linter.unusedSimpArgs false
set_option linter.unusedSectionVars false
section
set_option maxRecDepth 20000
open Go Go.PR Go.Proofs Go.PR.S
namespace Go.PR.S
theorem z9a : X.ft F.z6b = some Tryz.f4 := by kernel_rfl
theorem zs1 {c : List Int} {b1 : Bool} (c2 : Runs X F.z4z [.immI .u8 c] [] (boolR b1)) (h3 : b1 = true) : Runs X F.z6b [.immI .u8 c] [] (boolR true) :=
  RG z9a [true] [b1 = true] (PA h3 trivial) (PC c2 PN) LN
theorem zs3 {c : List Int} {b1 : Bool} (c2 : Runs X F.z4z [.immI .u8 c] [] (boolR b1)) (h4 : b1 = false) {n5 : Int} {xs6 ys7 zs8 : List Int} (c9 : Runs X F.z6p [.immI .u8 c] [] ⟨.tup [.agg [iD n5, .rsl 600000 0 xs6.length], .rsl 600001 0 ys7.length, .rsl 600002 0 zs8.length], [], [⟨true, .ints .i64 xs6⟩, ⟨true, .ints .i64 ys7⟩, ⟨true, .ints .i64 zs8⟩]⟩) {b10 : Bool} {r11 : Int} (c12 : Runs X F.z2v [alD n5 xs6, .immI .i64 ys7, .immI .i64 zs8] [] ⟨.tup [.bool b10, iD r11], [], []⟩) {b13 : Bool} {r14 : Int} (c15 : Runs X F.z3o [alD n5 xs6, .immI .i64 ys7, .immI .i64 zs8] [] ⟨.tup [.bool b13, iD r14], [], []⟩) (h17 : r11 = r14) (h19 : b10 = b13) (h20 : r11 = 1) : Runs X F.z6b [.immI .u8 c] [] (boolR true) :=
  RG z9a [false, true, true, true, true, true, true, false, false, false, false, false, true, true, true, true] [b1 = false, 0 + xs6.length ≤ xs6.length, 0 = 0 ∧ xs6.length = xs6.length, 0 + ys7.length ≤ ys7.length, 0 = 0 ∧ ys7.length = ys7.length, 0 + zs8.length ≤ zs8.length, 0 = 0 ∧ zs8.length = zs8.length, 0 + xs6.length ≤ xs6.length, 0 = 0 ∧ xs6.length = xs6.length, 0 + ys7.length ≤ ys7.length, 0 = 0 ∧ ys7.length = ys7.length, 0 + zs8.length ≤ zs8.length, 0 = 0 ∧ zs8.length = zs8.length, (r11 != r14) = false, (r11 != r14) = false, (r11 != r14) = false, (r11 != r14) = false, (!b10 == b13) = false, (r11 == (1 : Int)) = true, (r11 == (1 : Int)) = true, (r11 == (1 : Int)) = true, true = true] (PA h4 (PO (PA ⟨(by first | omega | (simp; done) | (simp at *; omega)), (by omega)⟩ (PO (PA ⟨(by first | omega | (simp; done) | (simp at *; omega)), (by omega)⟩ (PO (PA ⟨(by first | omega | (simp; done) | (simp at *; omega)), (by omega)⟩ (PO (PA ⟨(by first | omega | (simp; done) | (simp at *; omega)), (by omega)⟩ (PO (PA ⟨(by first | omega | (simp; done) | (simp at *; omega)), (by omega)⟩ (PO (PA ⟨(by first | omega | (simp; done) | (simp at *; omega)), (by omega)⟩ (PA (bne_eq_false_iff_eq.2 h17) (PA (bne_eq_false_iff_eq.2 h17) (PA (bne_eq_false_iff_eq.2 h17) (PA (bne_eq_false_iff_eq.2 h17) (PA (not_f (beq_iff_eq.2 h19)) (PA (beq_iff_eq.2 h20) (PA (beq_iff_eq.2 h20) (PA (beq_iff_eq.2 h20) (PA rfl trivial)))))))))))))))))))))) (PC c2 (PC c9 (PC c12 (PC c15 PN)))) LN
theorem zs5 {c : List Int} {b1 : Bool} (c2 : Runs X F.z4z [.immI .u8 c] [] (boolR b1)) (h4 : b1 = false) {n5 : Int} {xs6 ys7 zs8 : List Int} (c9 : Runs X F.z6p [.immI .u8 c] [] ⟨.tup [.agg [iD n5, .rsl 600000 0 xs6.length], .rsl 600001 0 ys7.length, .rsl 600002 0 zs8.length], [], [⟨true, .ints .i64 xs6⟩, ⟨true, .ints .i64 ys7⟩, ⟨true, .ints .i64 zs8⟩]⟩) {b10 : Bool} {r11 : Int} (c12 : Runs X F.z2v [alD n5 xs6, .immI .i64 ys7, .immI .i64 zs8] [] ⟨.tup [.bool b10, iD r11], [], []⟩) {b13 : Bool} {r14 : Int} (c15 : Runs X F.z3o [alD n5 xs6, .immI .i64 ys7, .immI .i64 zs8] [] ⟨.tup [.bool b13, iD r14], [], []⟩) (h17 : r11 = r14) (h19 : b10 = b13) (h21 : ¬r11 = 1) (h22 : r11 = 2) : Runs X F.z6b [.immI .u8 c] [] (boolR true) :=
  RG z9a [false, true, true, true, true, true, true, false, false, false, false, false, false, false, false, true] [b1 = false, 0 + xs6.length ≤ xs6.length, 0 = 0 ∧ xs6.length = xs6.length, 0 + ys7.length ≤ ys7.length, 0 = 0 ∧ ys7.length = ys7.length, 0 + zs8.length ≤ zs8.length, 0 = 0 ∧ zs8.length = zs8.length, 0 + xs6.length ≤ xs6.length, 0 = 0 ∧ xs6.length = xs6.length, 0 + ys7.length ≤ ys7.length, 0 = 0 ∧ ys7.length = ys7.length, 0 + zs8.length ≤ zs8.length, 0 = 0 ∧ zs8.length = zs8.length, (r11 != r14) = false, (r11 != r14) = false, (r11 != r14) = false, (r11 != r14) = false, (!b10 == b13) = false, (r11 == (1 : Int)) = false, (r11 == (1 : Int)) = false, (r11 == (1 : Int)) = false, (r11 == (2 : Int)) = true] (PA h4 (PO (PA ⟨(by first | omega | (simp; done) | (simp at *; omega)), (by omega)⟩ (PO (PA ⟨(by first | omega | (simp; done) | (simp at *; omega)), (by omega)⟩ (PO (PA ⟨(by first | omega | (simp; done) | (simp at *; omega)), (by omega)⟩ (PO (PA ⟨(by first | omega | (simp; done) | (simp at *; omega)), (by omega)⟩ (PO (PA ⟨(by first | omega | (simp; done) | (simp at *; omega)), (by omega)⟩ (PO (PA ⟨(by first | omega | (simp; done) | (simp at *; omega)), (by omega)⟩ (PA (bne_eq_false_iff_eq.2 h17) (PA (bne_eq_false_iff_eq.2 h17) (PA (bne_eq_false_iff_eq.2 h17) (PA (bne_eq_false_iff_eq.2 h17) (PA (not_f (beq_iff_eq.2 h19)) (PA (beq_false_of_ne h21) (PA (beq_false_of_ne h21) (PA (beq_false_of_ne h21) (PA (beq_iff_eq.2 h22) trivial)))))))))))))))))))))) (PC c2 (PC c9 (PC c12 (PC c15 PN)))) LN
theorem zs2 {c : List Int} {b1 : Bool} (c2 : Runs X F.z4z [.immI .u8 c] [] (boolR b1)) (h4 : b1 = false) {n5 : Int} {xs6 ys7 zs8 : List Int} (c9 : Runs X F.z6p [.immI .u8 c] [] ⟨.tup [.agg [iD n5, .rsl 600000 0 xs6.length], .rsl 600001 0 ys7.length, .rsl 600002 0 zs8.length], [], [⟨true, .ints .i64 xs6⟩, ⟨true, .ints .i64 ys7⟩, ⟨true, .ints .i64 zs8⟩]⟩) {b10 : Bool} {r11 : Int} (c12 : Runs X F.z2v [alD n5 xs6, .immI .i64 ys7, .immI .i64 zs8] [] ⟨.tup [.bool b10, iD r11], [], []⟩) {b13 : Bool} {r14 : Int} (c15 : Runs X F.z3o [alD n5 xs6, .immI .i64 ys7, .immI .i64 zs8] [] ⟨.tup [.bool b13, iD r14], [], []⟩) (h17 : r11 = r14) (h19 : b10 = b13) (h21 : ¬r11 = 1) (h23 : ¬r11 = 2) {xs24 : List Int} (c25 : Runs X F.z2j [.immI .i64 ys7] [] (rowR xs24)) {xs26 : List Int} (c27 : Runs X F.z2j [.immI .i64 zs8] [] (rowR xs26)) {b28 : Bool} {r29 : Int} (c30 : Runs X F.z8k [alD n5 xs6, .immI .i64 ys7, .immI .i64 zs8] [] ⟨.tup [.bool b28, iD r29], [], []⟩) {b31 : Bool} {r32 : Int} (c33 : Runs X F.z8j [alD n5 xs6, .immI .i64 xs24, .immI .i64 xs26] [] ⟨.tup [.bool b31, iD r32], [], []⟩) {xs34 : List Int} {r35 : Int} (c36 : Runs X F.z8o [alD n5 xs6, .immI .i64 ys7] [] ⟨.tup [.rsl 600000 0 xs34.length, iD r35], [], [⟨true, .ints .i64 xs34⟩]⟩) {xs37 : List Int} {r38 : Int} (c39 : Runs X F.z7c [alD n5 xs6, .immI .i64 xs24] [] ⟨.tup [.rsl 600000 0 xs37.length, iD r38], [], [⟨true, .ints .i64 xs37⟩]⟩) (h41 : r29 = 0) (h43 : r32 = 0) (h45 : r35 = 0) (h47 : r38 = 0) (h49 : b28 = b31) {xs50 : List Int} (c51 : Runs X F.z2j [.immI .i64 xs34] [] (rowR xs50)) {b52 : Bool} (c53 : Runs X F.z1w [.immI .i64 xs37, .immI .i64 xs50] [] (boolR b52)) (h55 : b52 = true) {b56 : Bool} {r57 : Int} (c58 : Runs X F.z8n [alD n5 xs6, .immI .i64 xs24] [] ⟨.tup [.bool b56, iD r57], [], []⟩) {xs59 ys60 : List Int} {r61 : Int} (c62 : Runs X F.z8l [alD n5 xs6, .immI .i64 xs24] [] ⟨.tup [.rsl 600000 0 xs59.length, .rsl 600001 0 ys60.length, iD r61], [], [⟨true, .ints .i64 xs59⟩, ⟨true, .ints .i64 ys60⟩]⟩) {b63 : Bool} {r64 : Int} (c65 : Runs X F.z5v [alD n5 xs6, .immI .i64 xs24, .immI .i64 xs26] [] ⟨.tup [.bool b63, iD r64], [], []⟩) (h66 : r57 = 0) (h67 : b56 = true) (h68 : r61 = 0) (h69 : (↑ys60.length : Int) = 0) {b70 : Bool} (c71 : Runs X F.z1w [.immI .i64 xs59, .immI .i64 xs37] [] (boolR b70)) (h72 : b70 = true) (h73 : r64 = r11) : Runs X F.z6b [.immI .u8 c] [] ⟨.bool (b63 == b10), [], []⟩ :=
  RG z9a [false, true, true, true, true, true, true, false, false, false, false, false, false, false, false, false, true, true, true, true, true, true, true, true, true, true, true, true, false, false, false, false, false, false, false, false, false, false, false, false, false, false, false, false, true, false, true, true, false, false, false, true, true, true, true, true, true, true, true, true, true, true, true, true, true, true, true, true, true, true, true, true, true, true, true, true, true, true, true, true, true] [b1 = false, 0 + xs6.length ≤ xs6.length, 0 = 0 ∧ xs6.length = xs6.length, 0 + ys7.length ≤ ys7.length, 0 = 0 ∧ ys7.length = ys7.length, 0 + zs8.length ≤ zs8.length, 0 = 0 ∧ zs8.length = zs8.length, 0 + xs6.length ≤ xs6.length, 0 = 0 ∧ xs6.length = xs6.length, 0 + ys7.length ≤ ys7.length, 0 = 0 ∧ ys7.length = ys7.length, 0 + zs8.length ≤ zs8.length, 0 = 0 ∧ zs8.length = zs8.length, (r11 != r14) = false, (r11 != r14) = false, (r11 != r14) = false, (r11 != r14) = false, (!b10 == b13) = false, (r11 == (1 : Int)) = false, (r11 == (1 : Int)) = false, (r11 == (1 : Int)) = false, (r11 == (2 : Int)) = false, 0 + ys7.length ≤ ys7.length, 0 = 0 ∧ ys7.length = ys7.length, 0 + zs8.length ≤ zs8.length, 0 = 0 ∧ zs8.length = zs8.length, 0 + xs6.length ≤ xs6.length, 0 = 0 ∧ xs6.length = xs6.length, 0 + ys7.length ≤ ys7.length, 0 = 0 ∧ ys7.length = ys7.length, 0 + zs8.length ≤ zs8.length, 0 = 0 ∧ zs8.length = zs8.length, 0 + xs6.length ≤ xs6.length, 0 = 0 ∧ xs6.length = xs6.length, 0 + xs24.length ≤ xs24.length, 0 = 0 ∧ xs24.length = xs24.length, 0 + xs26.length ≤ xs26.length, 0 = 0 ∧ xs26.length = xs26.length, 0 + xs6.length ≤ xs6.length, 0 = 0 ∧ xs6.length = xs6.length, 0 + ys7.length ≤ ys7.length, 0 = 0 ∧ ys7.length = ys7.length, 0 + xs6.length ≤ xs6.length, 0 = 0 ∧ xs6.length = xs6.length, 0 + xs24.length ≤ xs24.length, 0 = 0 ∧ xs24.length = xs24.length, (r29 != (0 : Int)) = false, (r29 != (0 : Int)) = false, (r29 != (0 : Int)) = false, (r32 != (0 : Int)) = false, (r32 != (0 : Int)) = false, (r32 != (0 : Int)) = false, (r35 != (0 : Int)) = false, (r35 != (0 : Int)) = false, (r35 != (0 : Int)) = false, (r38 != (0 : Int)) = false, (r38 != (0 : Int)) = false, (r38 != (0 : Int)) = false, (r38 != (0 : Int)) = false, (!b28 == b31) = false, (!b28 == b31) = false, (!b28 == b31) = false, 0 + xs34.length ≤ xs34.length, 0 = 0 ∧ xs34.length = xs34.length, (!b28 == b31) = false, 0 + xs37.length ≤ xs37.length, 0 = 0 ∧ xs37.length = xs37.length, 0 + xs50.length ≤ xs50.length, 0 = 0 ∧ xs50.length = xs50.length, (!b28 == b31) = false, (!b28 == b31) = false, (!b52) = false, 0 + xs6.length ≤ xs6.length, 0 = 0 ∧ xs6.length = xs6.length, 0 + xs24.length ≤ xs24.length, 0 = 0 ∧ xs24.length = xs24.length, 0 + xs6.length ≤ xs6.length, 0 = 0 ∧ xs6.length = xs6.length, 0 + xs24.length ≤ xs24.length, 0 = 0 ∧ xs24.length = xs24.length, 0 + xs6.length ≤ xs6.length, 0 = 0 ∧ xs6.length = xs6.length, 0 + xs24.length ≤ xs24.length, 0 = 0 ∧ xs24.length = xs24.length, 0 + xs26.length ≤ xs26.length, 0 = 0 ∧ xs26.length = xs26.length, (r57 == (0 : Int)) = true, (r57 == (0 : Int)) = true, b56 = true, b56 = true, b56 = true, (r61 == (0 : Int)) = true, (r61 == (0 : Int)) = true, (r61 == (0 : Int)) = true, (r61 == (0 : Int)) = true, ((↑ys60.length : Int) == (0 : Int)) = true, ((↑ys60.length : Int) == (0 : Int)) = true, ((↑ys60.length : Int) == (0 : Int)) = true, 0 + xs59.length ≤ xs59.length, 0 = 0 ∧ xs59.length = xs59.length, 0 + xs37.length ≤ xs37.length, 0 = 0 ∧ xs37.length = xs37.length, ((↑ys60.length : Int) == (0 : Int)) = true, b70 = true, b70 = true, b70 = true, b70 = true, (r64 == r11) = true, (r64 == r11) = true, (r64 == r11) = true, (r64 == r11) = true] (PA h4 (PO (PA ⟨(by first | omega | (simp; done) | (simp at *; omega)), (by omega)⟩ (PO (PA ⟨(by first | omega | (simp; done) | (simp at *; omega)), (by omega)⟩ (PO (PA ⟨(by first | omega | (simp; done) | (simp at *; omega)), (by omega)⟩ (PO (PA ⟨(by first | omega | (simp; done) | (simp at *; omega)), (by omega)⟩ (PO (PA ⟨(by first | omega | (simp; done) | (simp at *; omega)), (by omega)⟩ (PO (PA ⟨(by first | omega | (simp; done) | (simp at *; omega)), (by omega)⟩ (PA (bne_eq_false_iff_eq.2 h17) (PA (bne_eq_false_iff_eq.2 h17) (PA (bne_eq_false_iff_eq.2 h17) (PA (bne_eq_false_iff_eq.2 h17) (PA (not_f (beq_iff_eq.2 h19)) (PA (beq_false_of_ne h21) (PA (beq_false_of_ne h21) (PA (beq_false_of_ne h21) (PA (beq_false_of_ne h23) (PO (PA ⟨(by first | omega | (simp; done) | (simp at *; omega)), (by omega)⟩ (PO (PA ⟨(by first | omega | (simp; done) | (simp at *; omega)), (by omega)⟩ (PO (PA ⟨(by first | omega | (simp; done) | (simp at *; omega)), (by omega)⟩ (PO (PA ⟨(by first | omega | (simp; done) | (simp at *; omega)), (by omega)⟩ (PO (PA ⟨(by first | omega | (simp; done) | (simp at *; omega)), (by omega)⟩ (PO (PA ⟨(by first | omega | (simp; done) | (simp at *; omega)), (by omega)⟩ (PO (PA ⟨(by first | omega | (simp; done) | (simp at *; omega)), (by omega)⟩ (PO (PA ⟨(by first | omega | (simp; done) | (simp at *; omega)), (by omega)⟩ (PO (PA ⟨(by first | omega | (simp; done) | (simp at *; omega)), (by omega)⟩ (PO (PA ⟨(by first | omega | (simp; done) | (simp at *; omega)), (by omega)⟩ (PO (PA ⟨(by first | omega | (simp; done) | (simp at *; omega)), (by omega)⟩ (PO (PA ⟨(by first | omega | (simp; done) | (simp at *; omega)), (by omega)⟩ (PA (bne_eq_false_iff_eq.2 h41) (PA (bne_eq_false_iff_eq.2 h41) (PA (bne_eq_false_iff_eq.2 h41) (PA (bne_eq_false_iff_eq.2 h43) (PA (bne_eq_false_iff_eq.2 h43) (PA (bne_eq_false_iff_eq.2 h43) (PA (bne_eq_false_iff_eq.2 h45) (PA (bne_eq_false_iff_eq.2 h45) (PA (bne_eq_false_iff_eq.2 h45) (PA (bne_eq_false_iff_eq.2 h47) (PA (bne_eq_false_iff_eq.2 h47) (PA (bne_eq_false_iff_eq.2 h47) (PA (bne_eq_false_iff_eq.2 h47) (PA (not_f (beq_iff_eq.2 h49)) (PA (not_f (beq_iff_eq.2 h49)) (PA (not_f (beq_iff_eq.2 h49)) (PO (PA ⟨(by first | omega | (simp; done) | (simp at *; omega)), (by omega)⟩ (PA (not_f (beq_iff_eq.2 h49)) (PO (PA ⟨(by first | omega | (simp; done) | (simp at *; omega)), (by omega)⟩ (PO (PA ⟨(by first | omega | (simp; done) | (simp at *; omega)), (by omega)⟩ (PA (not_f (beq_iff_eq.2 h49)) (PA (not_f (beq_iff_eq.2 h49)) (PA (not_f h55) (PO (PA ⟨(by first | omega | (simp; done) | (simp at *; omega)), (by omega)⟩ (PO (PA ⟨(by first | omega | (simp; done) | (simp at *; omega)), (by omega)⟩ (PO (PA ⟨(by first | omega | (simp; done) | (simp at *; omega)), (by omega)⟩ (PO (PA ⟨(by first | omega | (simp; done) | (simp at *; omega)), (by omega)⟩ (PO (PA ⟨(by first | omega | (simp; done) | (simp at *; omega)), (by omega)⟩ (PO (PA ⟨(by first | omega | (simp; done) | (simp at *; omega)), (by omega)⟩ (PO (PA ⟨(by first | omega | (simp; done) | (simp at *; omega)), (by omega)⟩ (PA (beq_iff_eq.2 h66) (PA (beq_iff_eq.2 h66) (PA h67 (PA h67 (PA h67 (PA (beq_iff_eq.2 h68) (PA (beq_iff_eq.2 h68) (PA (beq_iff_eq.2 h68) (PA (beq_iff_eq.2 h68) (PA (beq_iff_eq.2 h69) (PA (beq_iff_eq.2 h69) (PA (beq_iff_eq.2 h69) (PO (PA ⟨(by first | omega | (simp; done) | (simp at *; omega)), (by omega)⟩ (PO (PA ⟨(by first | omega | (simp; done) | (simp at *; omega)), (by omega)⟩ (PA (beq_iff_eq.2 h69) (PA h72 (PA h72 (PA h72 (PA h72 (PA (beq_iff_eq.2 h73) (PA (beq_iff_eq.2 h73) (PA (beq_iff_eq.2 h73) (PA (beq_iff_eq.2 h73) trivial))))))))))))))))))))))))))))))))))))))))))))))))))))))))))))))))))))))))))))))))))))))))))))))))))))))))))))))) (PC c2 (PC c9 (PC c12 (PC c15 (PC c25 (PC c27 (PC c30 (PC c33 (PC c36 (PC c39 (PC c51 (PC c53 (PC c58 (PC c62 (PC c65 (PC c71 PN)))))))))))))))) LN
end Go.PR.S

end

section
set_option maxRecDepth 20000
namespace Go.PR.S
open Go Go.PR Go.Proofs Gp
def evenC (x : Int) : Bool := !(x.tmod 2 == 1)
theorem zuq {w : List Int} (hl : w.length ≤ B40) (hall : w.all evenC = true) : Runs X F.z5d [lD w, .fn F.z2w []] [] (boolR false) := by
  have hq : ∀ j, j < w.length → evenC (w.getD j 0) = true := fun j hj => by rw [getD_lt hj]; exact List.all_eq_true.1 hall _ (List.getElem_mem hj)
  have h1 : Runs X F.z8 [lD w, .fn F.z2w []] [] (intR (-1)) := by
    refine zx3 (loop_to (N := w.length) (st := fun i => z6n w i) (fun i hi Q hqq => ?_) (fun Q hqq => ?_))
    · have c1 := zoo (c := w.getD i 0)
      have hx := hq i hi
      unfold evenC at hx
      apply zx4
      case hq => exact hqq
      all_goals first | exact c1 | (simpa using hx) | (unfold B40 at hl; omega)
    · apply zx5
      case hq => exact hqq
      all_goals (unfold B40 at hl; omega)
  exact zw8 h1
theorem zn5 (w : List Int) (hw : ∀ x ∈ w, 0 ≤ x) : (w.map dbl).all evenC = true := by
  rw [List.all_eq_true]
  intro x hx
  obtain ⟨a, ha, rfl⟩ := List.mem_map.1 hx
  have := hw a ha
  unfold evenC dbl
  rw [Int.tmod_eq_emod_of_nonneg (by omega)]
  have : 2 * a % 2 = 0 := by omega
  rw [this]; rfl
section
variable {N : Nat} {d : List Int} (ha : Al N d)
include ha
theorem ztg {w : List Int} (hw : Wd N w) : nform (dep1 ha) N (nform (dep1 ha) N w) = nform (dep1 ha) N w := (z2b (T := dep1 ha) hw).nform N
theorem zma {w : List Int} (hw : Wd N w) : conjs (dep1 ha) N (nform (dep1 ha) N w) = conjs (dep1 ha) N w := by
  unfold conjs
  rw [ztg ha hw]
theorem z6e {w : List Int} (hw : Wd N w) : Wd N (nform (dep1 ha) N w) := fun x hx => hw x (((z2b (T := dep1 ha) hw).mem x).1 hx)
omit ha in
theorem dbl_Wd {w : List Int} (hw : Wd N w) : Wd (2 * N) (w.map dbl) := fun x hx => by
  obtain ⟨a, h, rfl⟩ := List.mem_map.1 hx
  have := hw a h
  unfold dbl
  omega
omit ha in
theorem z56 {u : List Int} (hw : Wd N u) : (u.map (· + 1)).map code = u.map dbl := zm8 u fun x hx => (hw x hx).1
omit ha in
theorem zdc {u : List Int} (hw : Wd N u) : (u.map dbl).map sign = u.map (· + 1) := zvq u fun x hx => (hw x hx).1
omit ha in
theorem pos_sg (hal : alOK N d = true) {u : List Int} (hw : Wd N u) (hl : u.length ≤ 24) : sgCode N d [u.map (· + 1)] = 0 := by
  have := zvp hal (dbl_Wd hw) (by simpa using hl)
  rwa [zdc hw] at this
variable (hal : alOK N d = true) (hd : d.length ≤ B40)
include hal hd
theorem ztt {u v : List Int} (hu : Wd N u) (hv : Wd N v) (lu : u.length ≤ 24) (lv : v.length ≤ 24) :
    Runs X F.z8j [alD N d, lD (u.map (· + 1)), lD (v.map (· + 1))] [] (pairB (decide (nform (dep1 ha) N u = nform (dep1 ha) N v)) 0) := by
  have hu0 := pos_sg hal hu lu
  have hv0 := pos_sg hal hv lv
  have h0 := sg_pair hu0 hv0
  obtain ⟨_, _, hub, _, _⟩ := z5b ha hu0
  obtain ⟨_, _, hvb, _, _⟩ := z5b ha hv0
  have bu : (u.map (· + 1)).length ≤ B40 := by rw [List.length_map]; unfold B40; omega
  have bv : (v.map (· + 1)).length ≤ B40 := by rw [List.length_map]; unfold B40; omega
  have c2 : Runs X F.zz [alD N d, .imm2 .i64 ([u.map (· + 1)] ++ [v.map (· + 1)])] [] (intR (sgCode N d [u.map (· + 1), v.map (· + 1)])) := z7q N d [u.map (· + 1), v.map (· + 1)] hd (by simp [B40]) (by simp only [List.mem_cons, List.not_mem_nil, or_false]; rintro w (rfl | rfl) <;> assumption)
  have k5 := z7x ha
  have k6 := z58 hub bu
  have k7 := z58 hvb bv
  rw [z56 hu] at k6
  rw [z56 hv] at k7
  have k8 := z5a ha (dbl_Wd hu) (by rw [List.length_map]; unfold B40; omega)
  have k9 := z5a ha (dbl_Wd hv) (by rw [List.length_map]; unfold B40; omega)
  have hg := gnf_le ha (dbl_Wd hu)
  have ke := zdj (gnf ha (u.map dbl)) (gnf ha (v.map dbl)) (by rw [List.length_map] at hg; unfold B40; omega)
  have x := zo5 c2 h0 k5 k6 k8 k7 k9 ke
  have e : decide (gnf ha (u.map dbl) = gnf ha (v.map dbl)) = decide (nform (dep1 ha) N u = nform (dep1 ha) N v) := by
    rw [gnf_pos, gnf_pos, Bool.eq_iff_iff, decide_eq_true_eq, decide_eq_true_eq]
    exact zsv
  rw [e] at x
  exact x
theorem ztv {u : List Int} (hu : Wd N u) (lu : u.length ≤ 24) : Runs X F.z8n [alD N d, lD (u.map (· + 1))] [] (pairB true 0) := by
  have h0 := pos_sg hal hu lu
  obtain ⟨_, _, hub, _, _⟩ := z5b ha h0
  have bu : (u.map (· + 1)).length ≤ B40 := by rw [List.length_map]; unfold B40; omega
  have c2 : Runs X F.zz [alD N d, .imm2 .i64 [u.map (· + 1)]] [] (intR (sgCode N d [u.map (· + 1)])) := z7q N d [u.map (· + 1)] hd (by simp [B40]) (by simp only [List.mem_singleton]; rintro w rfl; exact bu)
  have k5 := z7x ha
  have k6 := z58 hub bu
  rw [z56 hu] at k6
  have k8 := z5a ha (dbl_Wd hu) (by rw [List.length_map]; unfold B40; omega)
  have hg := gnf_le ha (dbl_Wd hu)
  rw [gnf_pos] at k8 hg
  have k9 := zuq (w := (nform (dep1 ha) N u).map dbl) (by rw [List.length_map, z2k hu]; unfold B40; omega) (zn5 _ fun x hx => (z6e ha hu x hx).1)
  exact zom c2 h0 k5 k6 k8 k9
theorem ztu {u : List Int} (hu : Wd N u) (lu : u.length ≤ 24) : Runs X F.z7c [alD N d, lD (u.map (· + 1))] [] (pairR ((nform (dep1 ha) N u).map (· + 1)) 0) := by
  have := znw ha hd (pos_sg hal hu lu)
  rwa [z56 hu, gnf_pos, zdc (z6e ha hu)] at this
omit hal hd in
theorem zdb {u : List Int} (hu : Wd N u) (lu : u.length ≤ 24) : Runs X F.zt [lD (dblL N d), lD (u.map dbl)] []
    ⟨.tup [.rsl 600000 0 ((nform (dep1 ha) N u).map dbl).length, .rsl 600001 0 ([] : List Int).length], [], [⟨true, .ints .i64 ((nform (dep1 ha) N u).map dbl)⟩, ⟨true, .ints .i64 []⟩]⟩ := by
  obtain ⟨p, f, p1, p2, p3, p4, p5, p6, p7, p8, r1, r2⟩ := zv0 ha (dbl_Wd hu) (by simpa using lu)
  obtain ⟨e1, e2⟩ := p8 (fun s _ => by rw [gnf_pos]; exact zmy ha _ s)
  rw [gnf_pos] at e1
  rw [e1, e2] at r2
  exact r2
theorem zts {u : List Int} (hu : Wd N u) (lu : u.length ≤ 24) : Runs X F.z8l [alD N d, lD (u.map (· + 1))] []
    ⟨.tup [.rsl 600000 0 ((nform (dep1 ha) N u).map (· + 1)).length, .rsl 600001 0 ([] : List Int).length, .int .i64 0], [], [⟨true, .ints .i64 ((nform (dep1 ha) N u).map (· + 1))⟩, ⟨true, .ints .i64 []⟩]⟩ := by
  have h0 := pos_sg hal hu lu
  obtain ⟨hN, _, hub, _, _⟩ := z5b ha h0
  have bu : (u.map (· + 1)).length ≤ B40 := by rw [List.length_map]; unfold B40; omega
  have c2 : Runs X F.zz [alD N d, .imm2 .i64 [u.map (· + 1)]] [] (intR (sgCode N d [u.map (· + 1)])) := z7q N d [u.map (· + 1)] hd (by simp [B40]) (by simp only [List.mem_singleton]; rintro w rfl; exact bu)
  have k5 := z7x ha
  have k6 := z58 hub bu
  rw [z56 hu] at k6
  have k7 := zdb ha hu lu
  have k8 := zdr hN (dbl_Wd (z6e ha hu)) (by rw [List.length_map, z2k hu]; unfold B40; omega)
  rw [zdc (z6e ha hu)] at k8
  have k9 := zdr (m := 2 * N) hN (w := []) (fun x hx => by cases hx) (by simp)
  exact zo9 c2 h0 k5 k6 k7 k8 k9
theorem ztr {u v : List Int} (hu : Wd N u) (hv : Wd N v) (lu : u.length ≤ 24) (lv : v.length ≤ 24) :
    Runs X F.z5v [alD N d, lD (u.map (· + 1)), lD (v.map (· + 1))] [] (pairB (conjB (dep1 ha) N u v) (conjE (dep1 ha) N u)) := by
  have hu0 := pos_sg hal hu lu
  have hv0 := pos_sg hal hv lv
  have h0 := sg_pair hu0 hv0
  obtain ⟨_, _, hub, _, _⟩ := z5b ha hu0
  obtain ⟨_, _, hvb, _, _⟩ := z5b ha hv0
  have bu : (u.map (· + 1)).length ≤ B40 := by rw [List.length_map]; unfold B40; omega
  have bv : (v.map (· + 1)).length ≤ B40 := by rw [List.length_map]; unfold B40; omega
  have c2 : Runs X F.zz [alD N d, .imm2 .i64 ([u.map (· + 1)] ++ [v.map (· + 1)])] [] (intR (sgCode N d [u.map (· + 1), v.map (· + 1)])) := z7q N d [u.map (· + 1), v.map (· + 1)] hd (by simp [B40]) (by simp only [List.mem_cons, List.not_mem_nil, or_false]; rintro w (rfl | rfl) <;> assumption)
  have k6 := z7x ha
  have k7 := z58 hub bu
  have k8 := z58 hvb bv
  rw [z56 hu] at k7
  rw [z56 hv] at k8
  have r2 := zdb ha hu lu
  have s2 := zdb ha hv lv
  have ht := tab_dbl ha
  have hnu := z6e ha hu
  have hnl : ((nform (dep1 ha) N u).map dbl).length ≤ 24 := by rw [List.length_map, z2k hu]; exact lu
  obtain ⟨m1, m2⟩ := zip ht (dbl_Wd hnu) hnl
  have hcj := zm9 (zfm ha) N (nform (dep1 ha) N u)
  rw [zma ha hu] at hcj
  unfold conjB conjE
  cases hc : conjs (dep1 ha) N u with
  | none =>
    rw [hc] at hcj
    obtain ⟨ps, g1, g2⟩ := m2 hcj
    exact zo1 c2 h0 k6 k7 r2 k8 s2 g2 (by omega)
  | some L0 =>
    rw [hc] at hcj
    obtain ⟨hI, g2⟩ := m1 (L0.map dbp) hcj
    have hle := hI.le
    have hw : ∀ p ∈ L0.map dbp, p.1.length ≤ B40 := fun p hp => by rw [hI.len p hp]; unfold B40; omega
    have i1 := zis (L0.map dbp) ((nform (dep1 ha) N v).map dbl) hle hw
    have hlen : ¬ (((L0.map dbp).map rc).length : Int) > 1000 := by rw [List.length_map]; omega
    have hmm := dbp_mem (nform (dep1 ha) N v) L0
    dsimp only
    by_cases hm : nform (dep1 ha) N v ∈ L0.map (·.1)
    · rw [if_pos (hmm.2 hm)] at i1
      have hi := List.idxOf_lt_length_iff.2 (hmm.2 hm)
      rw [List.length_map] at hi
      rw [decide_eq_true hm]
      exact zo3 c2 h0 k6 k7 r2 k8 s2 g2 hlen i1 (by omega) (by rw [List.length_map]; omega)
    · rw [if_neg (fun k => hm (hmm.1 k))] at i1
      rw [decide_eq_false hm]
      exact zo2 c2 h0 k6 k7 r2 k8 s2 g2 hlen i1 (by omega)
end
theorem run_FnEmbedding (c : List Int) (hr : ∀ x ∈ c, 0 ≤ x ∧ x ≤ 255) : Runs X F.z6b [bD c] [] (boolR true) := by
  have c2 := zux c
  cases hb : decide ((c.length : Int) > 4096) with
  | true => rw [hb] at c2; exact zs1 c2 rfl
  | false =>
    rw [hb] at c2
    have hc : Bytes c := ⟨by simp at hb; omega, hr⟩
    obtain ⟨n, d, u, v, hd, hu, hv, c9⟩ := zus hc
    have hd' : d.length ≤ B40 := by unfold B40; omega
    have hu' : u.length ≤ B40 := by unfold B40; omega
    have hv' : v.length ≤ B40 := by unfold B40; omega
    by_cases h0 : wdCode n d [u, v] = 0
    · obtain ⟨hu0, hv0⟩ := wd_two h0
      obtain ⟨N, ha, rfl, hal, hul, huW⟩ := wd_one hu0
      obtain ⟨N2, _, e2, _, hvl, hvW⟩ := wd_one hv0
      obtain rfl : N = N2 := by omega
      have hs := ha.small
      obtain ⟨cs, ci⟩ := zul ha h0 hd'
      have s1 := zdq u hu' (fun x hx => by have := huW x hx; omega)
      have s2 := zdq v hv' (fun x hx => by have := hvW x hx; omega)
      have nW := z6e ha huW
      have nl : (nform (dep1 ha) N u).length ≤ B40 := by rw [z2k huW]; exact hu'
      have s3 := zdq (nform (dep1 ha) N u) nl (fun x hx => by have := nW x hx; omega)
      have l1 := zvg ((nform (dep1 ha) N u).map (· + 1)) ((nform (dep1 ha) N u).map (· + 1)) (by rw [List.length_map]; exact nl)
      rw [decide_eq_true (by trivial)] at l1
      have hE : conjE (dep1 ha) N u = 0 ∨ conjE (dep1 ha) N u = 3 := by
        unfold conjE
        cases conjs (dep1 ha) N u with
        | none => exact .inr rfl
        | some => exact .inl rfl
      have x := zs2 c2 rfl c9 ci cs rfl rfl (by omega) (by omega) s1 s2 (zun ha h0 hd') (ztt ha hal hd' huW hvW hul hvl) (zuu ha hu0 hd') (ztu ha hal hd' huW hul) rfl rfl rfl rfl rfl s3 l1 rfl
        (ztv ha hal hd' huW hul) (zts ha hal hd' huW hul) (ztr ha hal hd' huW hvW hul hvl) rfl rfl rfl rfl l1 rfl rfl
      rw [beq_self_eq_true] at x
      exact x
    · obtain ⟨cs, ci⟩ := zum n d u v hd' hu' hv' h0
      rcases z121 n d [u, v] with e | e | e
      · exact absurd e h0
      · exact zs3 c2 rfl c9 ci cs rfl rfl e
      · exact zs5 c2 rfl c9 ci cs rfl rfl (by omega) e
end Go.PR.S

end
