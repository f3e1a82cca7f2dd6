/- Path lemmas (written by Vc.lean). -/
import Derived.Test.YtmjbhacjgjihpaaDoorFwMk
set_option linter.unusedVariables false
set_option linter.unusedSimpArgs false
set_option linter.unusedSectionVars false
set_option maxRecDepth 20000
open Go Go.PR Go.Proofs Go.PR.S
namespace Go.PR.S
theorem zgz : X.ft F.z1j = some Tryd.f118 := by kernel_rfl
theorem zh0 {n a b : Int} {b1 : Bool} (c2 : Runs X F.z18 [iD n, iD a, iD b] [] (boolR b1)) : Runs X F.z1j [iD n, .pim [iD a], .pim [iD b]] [] ⟨.bool !b1, [], []⟩ :=
  RG zgz [] [] trivial (PC c2 PN) LN
theorem zdc : X.ft F.z1q = some Tryd.f151 := by kernel_rfl
def z2q (w : List Int) (a b : Int) (t8a : Nat) : LSt := ⟨mkE 19 0 [(0, .immI .i64 w), (1, .fn F.z1j [.pim [iD a], .pim [iD b]]), (7, iD (↑w.length : Int)), (8, iD (↑t8a : Int))], []⟩
def z95 (t4az : Nat) : OutL := .ret ⟨mkE 19 0 [(4, iD (↑t4az : Int))], []⟩
def z96 : OutL := .exit 0 ⟨mkE 19 0 [], []⟩
theorem zmo {Q : Out → Prop} {w : List Int} {a b : Int} {t8a : Nat} (h1 : (↑t8a : Int) < (↑w.length : Int)) {b2 : Bool} (c3 : Runs X F.z1j [iD (w.getD t8a 0), .pim [iD a], .pim [iD b]] [] (boolR b2)) (h4 : b2 = true) (hq : Q (z95 t8a).out) : wq F.z1q 0 Tryd.f151 0 (z2q w a b t8a) Q :=
  RS [true, true] (z95 t8a) [decide ((↑t8a : Int) < (↑w.length : Int)) = true, (0 : Int) ≤ (↑t8a : Int) ∧ (↑t8a : Int) < (↑w.length : Int), b2 = true] (PA (decide_eq_true h1) (PA ⟨(by omega), h1⟩ (PA h4 trivial))) (PC c3 PN) LN hq
theorem zdd {Q : Out → Prop} {w : List Int} {a b : Int} {t8a : Nat} (h1 : (↑t8a : Int) < (↑w.length : Int)) {b2 : Bool} (c3 : Runs X F.z1j [iD (w.getD t8a 0), .pim [iD a], .pim [iD b]] [] (boolR b2)) (h5 : b2 = false) (h6 : (↑t8a : Int) + (1 : Int) ≤ (9223372036854775807 : Int)) (hq : wq F.z1q 0 Tryd.f151 0 (z2q w a b (t8a + 1)) Q) : wq F.z1q 0 Tryd.f151 0 (z2q w a b t8a) Q :=
  RS [true, false] (.normal (z2q w a b (t8a + 1))) [decide ((↑t8a : Int) < (↑w.length : Int)) = true, (0 : Int) ≤ (↑t8a : Int) ∧ (↑t8a : Int) < (↑w.length : Int), b2 = false, inR ((↑t8a : Int) + (1 : Int))] (PA (decide_eq_true h1) (PA ⟨(by omega), h1⟩ (PA h5 (PA ⟨(by omega), h6⟩ trivial)))) (PC c3 PN) LN hq
theorem zmp {Q : Out → Prop} {w : List Int} {a b : Int} {t8a : Nat} (h7 : ¬(↑t8a : Int) < (↑w.length : Int)) (hq : Q (z96).out) : wq F.z1q 0 Tryd.f151 0 (z2q w a b t8a) Q :=
  RS [false] (z96) [decide ((↑t8a : Int) < (↑w.length : Int)) = false] (PA (decide_eq_false h7) trivial) PN LN hq
theorem zmm {w : List Int} {a b : Int} {t4az : Nat} (l8 : wl F.z1q 0 Tryd.f151 0 (z2q w a b 0) (z95 t4az)) : Runs X F.z1q [.immI .i64 w, .fn F.z1j [.pim [iD a], .pim [iD b]]] [] ⟨iD (↑t4az : Int), [], []⟩ :=
  RG zdc [] [] trivial PN (LC l8 LN)
theorem zmn {w : List Int} {a b : Int} (l9 : wl F.z1q 0 Tryd.f151 0 (z2q w a b 0) z96) : Runs X F.z1q [.immI .i64 w, .fn F.z1j [.pim [iD a], .pim [iD b]]] [] ⟨iD (-1 : Int), [], []⟩ :=
  RG zdc [] [] trivial PN (LC l9 LN)
theorem zml : X.ft F.z94 = some Tryd.f117 := by kernel_rfl
theorem zdb {w : List Int} {a b r1 : Int} (c2 : Runs X F.z1q [.immI .i64 w, .fn F.z1j [.pim [iD a], .pim [iD b]]] [] (intR r1)) : Runs X F.z94 [.immI .i64 w, .fn F.z1j [.pim [iD a], .pim [iD b]]] [] ⟨.bool (decide (r1 ≥ (0 : Int))), [], []⟩ :=
  RG zml [] [] trivial (PC c2 PN) LN
end Go.PR.S
