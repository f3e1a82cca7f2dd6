/- Path lemmas (written by Vc.lean). -/
import Derived.Test.YtkoednplncfgaaaDoorFwMk
set_option linter.unusedVariables false
set_option linter.unusedSimpArgs false
set_option maxRecDepth 20000
open Go Go.PR Go.Proofs Go.PR.S
namespace Go.PR.S
theorem zlp : X.ft F.z13 = some Tryd.f157 := by kernel_rfl
theorem zlq {n a b : Int} {b1 : Bool} (c2 : Runs X F.zk [iD n, iD a, iD b] [] (boolR b1)) : Runs X F.z13 [iD n, .pim [iD a], .pim [iD b]] [] ⟨.bool !b1, [], []⟩ :=
  RG zlp [] [] trivial (PC c2 PN) LN
theorem zi2 : X.ft F.zf = some Tryd.f158 := by kernel_rfl
def z3w (w : List Int) (a b : Int) (t8a : Nat) : LSt := ⟨mkE 19 0 [(0, .immI .i64 w), (1, .fn F.z13 [.pim [iD a], .pim [iD b]]), (7, iD (↑w.length : Int)), (8, iD (↑t8a : Int))], []⟩
def zcs (t4az : Nat) : OutL := .ret ⟨mkE 19 0 [(4, iD (↑t4az : Int))], []⟩
def zct : OutL := .exit 0 ⟨mkE 19 0 [], []⟩
theorem zuu {Q : Out → Prop} {w : List Int} {a b : Int} {t8a : Nat} (h1 : (↑t8a : Int) < (↑w.length : Int)) {b2 : Bool} (c3 : Runs X F.z13 [iD (w.getD t8a 0), .pim [iD a], .pim [iD b]] [] (boolR b2)) (h4 : b2 = true) (hq : Q (zcs t8a).out) : wq F.zf 0 Tryd.f158 0 (z3w w a b t8a) Q :=
  RS [true, true] (zcs t8a) [decide ((↑t8a : Int) < (↑w.length : Int)) = true, (0 : Int) ≤ (↑t8a : Int) ∧ (↑t8a : Int) < (↑w.length : Int), b2 = true] (PA (decide_eq_true h1) (PA ⟨(by omega), h1⟩ (PA h4 trivial))) (PC c3 PN) LN hq
theorem zi3 {Q : Out → Prop} {w : List Int} {a b : Int} {t8a : Nat} (h1 : (↑t8a : Int) < (↑w.length : Int)) {b2 : Bool} (c3 : Runs X F.z13 [iD (w.getD t8a 0), .pim [iD a], .pim [iD b]] [] (boolR b2)) (h5 : b2 = false) (h6 : (↑t8a : Int) + (1 : Int) ≤ (9223372036854775807 : Int)) (hq : wq F.zf 0 Tryd.f158 0 (z3w w a b (t8a + 1)) Q) : wq F.zf 0 Tryd.f158 0 (z3w w a b t8a) Q :=
  RS [true, false] (.normal (z3w w a b (t8a + 1))) [decide ((↑t8a : Int) < (↑w.length : Int)) = true, (0 : Int) ≤ (↑t8a : Int) ∧ (↑t8a : Int) < (↑w.length : Int), b2 = false, inR ((↑t8a : Int) + (1 : Int))] (PA (decide_eq_true h1) (PA ⟨(by omega), h1⟩ (PA h5 (PA ⟨(by omega), h6⟩ trivial)))) (PC c3 PN) LN hq
theorem zuv {Q : Out → Prop} {w : List Int} {a b : Int} {t8a : Nat} (h7 : ¬(↑t8a : Int) < (↑w.length : Int)) (hq : Q (zct).out) : wq F.zf 0 Tryd.f158 0 (z3w w a b t8a) Q :=
  RS [false] (zct) [decide ((↑t8a : Int) < (↑w.length : Int)) = false] (PA (decide_eq_false h7) trivial) PN LN hq
theorem zus {w : List Int} {a b : Int} {t4az : Nat} (l8 : wl F.zf 0 Tryd.f158 0 (z3w w a b 0) (zcs t4az)) : Runs X F.zf [.immI .i64 w, .fn F.z13 [.pim [iD a], .pim [iD b]]] [] ⟨iD (↑t4az : Int), [], []⟩ :=
  RG zi2 [] [] trivial PN (LC l8 LN)
theorem zut {w : List Int} {a b : Int} (l9 : wl F.zf 0 Tryd.f158 0 (z3w w a b 0) zct) : Runs X F.zf [.immI .i64 w, .fn F.z13 [.pim [iD a], .pim [iD b]]] [] ⟨iD (-1 : Int), [], []⟩ :=
  RG zi2 [] [] trivial PN (LC l9 LN)
theorem zu8 : X.ft F.z2u = some Tryd.f116 := by kernel_rfl
theorem zhu {w : List Int} {a b r1 : Int} (c2 : Runs X F.zf [.immI .i64 w, .fn F.z13 [.pim [iD a], .pim [iD b]]] [] (intR r1)) : Runs X F.z2u [.immI .i64 w, .fn F.z13 [.pim [iD a], .pim [iD b]]] [] ⟨.bool (decide (r1 ≥ (0 : Int))), [], []⟩ :=
  RG zu8 [] [] trivial (PC c2 PN) LN
theorem zfb : X.ft F.z1j = some Tryd.f117 := by kernel_rfl
theorem zno {r : Int} {b : List Bool} (h1 : r ≥ (0 : Int)) (h2 : r < (↑b.length : Int)) : Runs X F.z1j [iD r, .pim [.immB b]] [] ⟨.bool !b.getD r.toNat false, [], []⟩ :=
  RG zfb [true, true, true, true, true, true] [decide (r ≥ (0 : Int)) = true, decide (r ≥ (0 : Int)) = true, decide (r ≥ (0 : Int)) = true, (0 : Int) ≤ r ∧ r < (↑b.length : Int), decide (r ≥ (0 : Int)) = true, decide (r ≥ (0 : Int)) = true, decide (r ≥ (0 : Int)) = true] (PA (decide_eq_true h1) (PA (decide_eq_true h1) (PA (decide_eq_true h1) (PA ⟨h1, h2⟩ (PA (decide_eq_true h1) (PA (decide_eq_true h1) (PA (decide_eq_true h1) trivial))))))) PN LN
theorem znp {r : Int} {b : List Bool} (h3 : ¬r ≥ (0 : Int)) : Runs X F.z1j [iD r, .pim [.immB b]] [] (boolR false) :=
  RG zfb [false, false, false, false, false, false] [decide (r ≥ (0 : Int)) = false, decide (r ≥ (0 : Int)) = false, decide (r ≥ (0 : Int)) = false, decide (r ≥ (0 : Int)) = false, decide (r ≥ (0 : Int)) = false, decide (r ≥ (0 : Int)) = false] (PA (decide_eq_false h3) (PA (decide_eq_false h3) (PA (decide_eq_false h3) (PA (decide_eq_false h3) (PA (decide_eq_false h3) (PA (decide_eq_false h3) trivial)))))) PN LN
theorem zi4 : X.ft F.zf = some Tryd.f158 := by kernel_rfl
def z3x (w : List Int) (b : List Bool) (t8a : Nat) : LSt := ⟨mkE 19 0 [(0, .immI .i64 w), (1, .fn F.z1j [.pim [.immB b]]), (7, iD (↑w.length : Int)), (8, iD (↑t8a : Int))], []⟩
def zcu (t4az : Nat) : OutL := .ret ⟨mkE 19 0 [(4, iD (↑t4az : Int))], []⟩
def zcv : OutL := .exit 0 ⟨mkE 19 0 [], []⟩
theorem zuy {Q : Out → Prop} {w : List Int} {b : List Bool} {t8a : Nat} (h1 : (↑t8a : Int) < (↑w.length : Int)) {b2 : Bool} (c3 : Runs X F.z1j [iD (w.getD t8a 0), .pim [.immB b]] [] (boolR b2)) (h4 : b2 = true) (hq : Q (zcu t8a).out) : wq F.zf 0 Tryd.f158 0 (z3x w b t8a) Q :=
  RS [true, true] (zcu t8a) [decide ((↑t8a : Int) < (↑w.length : Int)) = true, (0 : Int) ≤ (↑t8a : Int) ∧ (↑t8a : Int) < (↑w.length : Int), b2 = true] (PA (decide_eq_true h1) (PA ⟨(by omega), h1⟩ (PA h4 trivial))) (PC c3 PN) LN hq
theorem zi5 {Q : Out → Prop} {w : List Int} {b : List Bool} {t8a : Nat} (h1 : (↑t8a : Int) < (↑w.length : Int)) {b2 : Bool} (c3 : Runs X F.z1j [iD (w.getD t8a 0), .pim [.immB b]] [] (boolR b2)) (h5 : b2 = false) (h6 : (↑t8a : Int) + (1 : Int) ≤ (9223372036854775807 : Int)) (hq : wq F.zf 0 Tryd.f158 0 (z3x w b (t8a + 1)) Q) : wq F.zf 0 Tryd.f158 0 (z3x w b t8a) Q :=
  RS [true, false] (.normal (z3x w b (t8a + 1))) [decide ((↑t8a : Int) < (↑w.length : Int)) = true, (0 : Int) ≤ (↑t8a : Int) ∧ (↑t8a : Int) < (↑w.length : Int), b2 = false, inR ((↑t8a : Int) + (1 : Int))] (PA (decide_eq_true h1) (PA ⟨(by omega), h1⟩ (PA h5 (PA ⟨(by omega), h6⟩ trivial)))) (PC c3 PN) LN hq
theorem zuz {Q : Out → Prop} {w : List Int} {b : List Bool} {t8a : Nat} (h7 : ¬(↑t8a : Int) < (↑w.length : Int)) (hq : Q (zcv).out) : wq F.zf 0 Tryd.f158 0 (z3x w b t8a) Q :=
  RS [false] (zcv) [decide ((↑t8a : Int) < (↑w.length : Int)) = false] (PA (decide_eq_false h7) trivial) PN LN hq
theorem zuw {w : List Int} {b : List Bool} {t4az : Nat} (l8 : wl F.zf 0 Tryd.f158 0 (z3x w b 0) (zcu t4az)) : Runs X F.zf [.immI .i64 w, .fn F.z1j [.pim [.immB b]]] [] ⟨iD (↑t4az : Int), [], []⟩ :=
  RG zi4 [] [] trivial PN (LC l8 LN)
theorem zux {w : List Int} {b : List Bool} (l9 : wl F.zf 0 Tryd.f158 0 (z3x w b 0) zcv) : Runs X F.zf [.immI .i64 w, .fn F.z1j [.pim [.immB b]]] [] ⟨iD (-1 : Int), [], []⟩ :=
  RG zi4 [] [] trivial PN (LC l9 LN)
theorem zu9 : X.ft F.z2u = some Tryd.f116 := by kernel_rfl
theorem zhv {w : List Int} {b : List Bool} {r1 : Int} (c2 : Runs X F.zf [.immI .i64 w, .fn F.z1j [.pim [.immB b]]] [] (intR r1)) : Runs X F.z2u [.immI .i64 w, .fn F.z1j [.pim [.immB b]]] [] ⟨.bool (decide (r1 ≥ (0 : Int))), [], []⟩ :=
  RG zu9 [] [] trivial (PC c2 PN) LN
theorem zi6 : X.ft F.z2g = some Tryd.f159 := by kernel_rfl
def z3y (w : List Bool) (b : Bool) (t8a : Nat) : LSt := ⟨mkE 19 0 [(0, .immB w), (1, .bool b), (7, iD (↑w.length : Int)), (8, iD (↑t8a : Int))], []⟩
def zcw (t4az : Nat) : OutL := .ret ⟨mkE 19 0 [(4, iD (↑t4az : Int))], []⟩
def zcx : OutL := .exit 0 ⟨mkE 19 0 [], []⟩
theorem zv2 {Q : Out → Prop} {w : List Bool} {b : Bool} {t8a : Nat} (h1 : (↑t8a : Int) < (↑w.length : Int)) (h2 : b = w.getD t8a false) (hq : Q (zcw t8a).out) : wq F.z2g 0 Tryd.f159 0 (z3y w b t8a) Q :=
  RS [true, true] (zcw t8a) [decide ((↑t8a : Int) < (↑w.length : Int)) = true, (0 : Int) ≤ (↑t8a : Int) ∧ (↑t8a : Int) < (↑w.length : Int), (b == w.getD t8a false) = true] (PA (decide_eq_true h1) (PA ⟨(by omega), h1⟩ (PA (beq_iff_eq.2 h2) trivial))) PN LN hq
theorem zi7 {Q : Out → Prop} {w : List Bool} {b : Bool} {t8a : Nat} (h1 : (↑t8a : Int) < (↑w.length : Int)) (h3 : ¬b = w.getD t8a false) (h4 : (↑t8a : Int) + (1 : Int) ≤ (9223372036854775807 : Int)) (hq : wq F.z2g 0 Tryd.f159 0 (z3y w b (t8a + 1)) Q) : wq F.z2g 0 Tryd.f159 0 (z3y w b t8a) Q :=
  RS [true, false] (.normal (z3y w b (t8a + 1))) [decide ((↑t8a : Int) < (↑w.length : Int)) = true, (0 : Int) ≤ (↑t8a : Int) ∧ (↑t8a : Int) < (↑w.length : Int), (b == w.getD t8a false) = false, inR ((↑t8a : Int) + (1 : Int))] (PA (decide_eq_true h1) (PA ⟨(by omega), h1⟩ (PA (beq_false_of_ne h3) (PA ⟨(by omega), h4⟩ trivial)))) PN LN hq
theorem zv3 {Q : Out → Prop} {w : List Bool} {b : Bool} {t8a : Nat} (h5 : ¬(↑t8a : Int) < (↑w.length : Int)) (hq : Q (zcx).out) : wq F.z2g 0 Tryd.f159 0 (z3y w b t8a) Q :=
  RS [false] (zcx) [decide ((↑t8a : Int) < (↑w.length : Int)) = false] (PA (decide_eq_false h5) trivial) PN LN hq
theorem zv0 {w : List Bool} {b : Bool} {t4az : Nat} (l6 : wl F.z2g 0 Tryd.f159 0 (z3y w b 0) (zcw t4az)) : Runs X F.z2g [.immB w, .bool b] [] ⟨iD (↑t4az : Int), [], []⟩ :=
  RG zi6 [] [] trivial PN (LC l6 LN)
theorem zv1 {w : List Bool} {b : Bool} (l7 : wl F.z2g 0 Tryd.f159 0 (z3y w b 0) zcx) : Runs X F.z2g [.immB w, .bool b] [] ⟨iD (-1 : Int), [], []⟩ :=
  RG zi6 [] [] trivial PN (LC l7 LN)
theorem zua : X.ft F.z9i = some Tryd.f118 := by kernel_rfl
theorem zhw {w : List Bool} {b : Bool} {r1 : Int} (c2 : Runs X F.z2g [.immB w, .bool b] [] (intR r1)) : Runs X F.z9i [.immB w, .bool b] [] ⟨.bool (decide (r1 ≥ (0 : Int))), [], []⟩ :=
  RG zua [] [] trivial (PC c2 PN) LN
theorem zf2 : X.ft F.z1r = some Tryd.f112 := by kernel_rfl
theorem zlc {n s : Int} {f m : Int} {xss : List (List Int)} {row : List Int} (h1 : ¬(↑row.length : Int) = n) : Runs X F.z1r [.immI .i64 row, .pim [iD n, iD s, iD f, .imm2 .i64 xss], .pim [iD m]] [] (boolR true) :=
  RG zf2 [true, true, true, true, true, true] [((↑row.length : Int) != n) = true, ((↑row.length : Int) != n) = true, ((↑row.length : Int) != n) = true, ((↑row.length : Int) != n) = true, ((↑row.length : Int) != n) = true, ((↑row.length : Int) != n) = true] (PA (bne_iff_ne.2 h1) (PA (bne_iff_ne.2 h1) (PA (bne_iff_ne.2 h1) (PA (bne_iff_ne.2 h1) (PA (bne_iff_ne.2 h1) (PA (bne_iff_ne.2 h1) trivial)))))) (PC (Runs.path (by kernel_rfl) (by kernel_rfl) (show fnV X F.z4u Tryd.f113 [.immI .i64 row] [] ⟨[], [], []⟩ = .ok (⟨iD (↑row.length : Int), [], []⟩) ⟨[], [], []⟩ ⟨[], [], []⟩ by kernel_rfl) trivial trivial trivial) PN) LN
theorem zld {n s : Int} {f m : Int} {xss : List (List Int)} {row : List Int} (h2 : (↑row.length : Int) = n) (h3 : (-9223372036854775808 : Int) ≤ m - (1 : Int)) (h4 : m - (1 : Int) ≤ (9223372036854775807 : Int)) {b5 : Bool} (c6 : Runs X F.z2b [.immI .i64 row, iD (-1 : Int), iD (m - (1 : Int))] [] (boolR b5)) : Runs X F.z1r [.immI .i64 row, .pim [iD n, iD s, iD f, .imm2 .i64 xss], .pim [iD m]] [] ⟨.bool !b5, [], []⟩ :=
  RG zf2 [false, false, false, false, false, false] [((↑row.length : Int) != n) = false, ((↑row.length : Int) != n) = false, ((↑row.length : Int) != n) = false, inR (m - (1 : Int)), ((↑row.length : Int) != n) = false, ((↑row.length : Int) != n) = false, ((↑row.length : Int) != n) = false] (PA (bne_eq_false_iff_eq.2 h2) (PA (bne_eq_false_iff_eq.2 h2) (PA (bne_eq_false_iff_eq.2 h2) (PA ⟨h3, h4⟩ (PA (bne_eq_false_iff_eq.2 h2) (PA (bne_eq_false_iff_eq.2 h2) (PA (bne_eq_false_iff_eq.2 h2) trivial))))))) (PC (Runs.path (by kernel_rfl) (by kernel_rfl) (show fnV X F.z4u Tryd.f113 [.immI .i64 row] [] ⟨[], [], []⟩ = .ok (⟨iD (↑row.length : Int), [], []⟩) ⟨[], [], []⟩ ⟨[], [], []⟩ by kernel_rfl) trivial trivial trivial) (PC c6 PN)) LN
theorem zhx : X.ft F.z2f = some Tryd.f156 := by kernel_rfl
def z3t (n s : Int) (f m : Int) (xss yss : List (List Int)) (t8a : Nat) : LSt := ⟨mkE 19 0 [(0, .imm2 .i64 yss), (1, .fn F.z1r [.pim [iD n, iD s, iD f, .imm2 .i64 xss], .pim [iD m]]), (7, iD (↑yss.length : Int)), (8, iD (↑t8a : Int))], []⟩
def zcl (t4az : Nat) : OutL := .ret ⟨mkE 19 0 [(4, iD (↑t4az : Int))], []⟩
def zcm : OutL := .exit 0 ⟨mkE 19 0 [], []⟩
theorem zud {Q : Out → Prop} {n s : Int} {f m : Int} {xss yss : List (List Int)} {t8a : Nat} (h1 : (↑t8a : Int) < (↑yss.length : Int)) {b2 : Bool} (c3 : Runs X F.z1r [.immI .i64 (yss.getD t8a []), .pim [iD n, iD s, iD f, .imm2 .i64 xss], .pim [iD m]] [] (boolR b2)) (h4 : b2 = true) (hq : Q (zcl t8a).out) : wq F.z2f 0 Tryd.f156 0 (z3t n s f m xss yss t8a) Q :=
  RS [true, true] (zcl t8a) [decide ((↑t8a : Int) < (↑yss.length : Int)) = true, (0 : Int) ≤ (↑t8a : Int) ∧ (↑t8a : Int) < (↑yss.length : Int), b2 = true] (PA (decide_eq_true h1) (PA ⟨(by omega), h1⟩ (PA h4 trivial))) (PC c3 PN) LN hq
theorem zhy {Q : Out → Prop} {n s : Int} {f m : Int} {xss yss : List (List Int)} {t8a : Nat} (h1 : (↑t8a : Int) < (↑yss.length : Int)) {b2 : Bool} (c3 : Runs X F.z1r [.immI .i64 (yss.getD t8a []), .pim [iD n, iD s, iD f, .imm2 .i64 xss], .pim [iD m]] [] (boolR b2)) (h5 : b2 = false) (h6 : (↑t8a : Int) + (1 : Int) ≤ (9223372036854775807 : Int)) (hq : wq F.z2f 0 Tryd.f156 0 (z3t n s f m xss yss (t8a + 1)) Q) : wq F.z2f 0 Tryd.f156 0 (z3t n s f m xss yss t8a) Q :=
  RS [true, false] (.normal (z3t n s f m xss yss (t8a + 1))) [decide ((↑t8a : Int) < (↑yss.length : Int)) = true, (0 : Int) ≤ (↑t8a : Int) ∧ (↑t8a : Int) < (↑yss.length : Int), b2 = false, inR ((↑t8a : Int) + (1 : Int))] (PA (decide_eq_true h1) (PA ⟨(by omega), h1⟩ (PA h5 (PA ⟨(by omega), h6⟩ trivial)))) (PC c3 PN) LN hq
theorem zue {Q : Out → Prop} {n s : Int} {f m : Int} {xss yss : List (List Int)} {t8a : Nat} (h7 : ¬(↑t8a : Int) < (↑yss.length : Int)) (hq : Q (zcm).out) : wq F.z2f 0 Tryd.f156 0 (z3t n s f m xss yss t8a) Q :=
  RS [false] (zcm) [decide ((↑t8a : Int) < (↑yss.length : Int)) = false] (PA (decide_eq_false h7) trivial) PN LN hq
theorem zub {n s : Int} {f m : Int} {xss yss : List (List Int)} {t4az : Nat} (l8 : wl F.z2f 0 Tryd.f156 0 (z3t n s f m xss yss 0) (zcl t4az)) : Runs X F.z2f [.imm2 .i64 yss, .fn F.z1r [.pim [iD n, iD s, iD f, .imm2 .i64 xss], .pim [iD m]]] [] ⟨iD (↑t4az : Int), [], []⟩ :=
  RG zhx [] [] trivial PN (LC l8 LN)
theorem zuc {n s : Int} {f m : Int} {xss yss : List (List Int)} (l9 : wl F.z2f 0 Tryd.f156 0 (z3t n s f m xss yss 0) zcm) : Runs X F.z2f [.imm2 .i64 yss, .fn F.z1r [.pim [iD n, iD s, iD f, .imm2 .i64 xss], .pim [iD m]]] [] ⟨iD (-1 : Int), [], []⟩ :=
  RG zhx [] [] trivial PN (LC l9 LN)
theorem zu3 : X.ft F.z9h = some Tryd.f111 := by kernel_rfl
theorem zhr {n s : Int} {f m : Int} {xss yss : List (List Int)} {r1 : Int} (c2 : Runs X F.z2f [.imm2 .i64 yss, .fn F.z1r [.pim [iD n, iD s, iD f, .imm2 .i64 xss], .pim [iD m]]] [] (intR r1)) : Runs X F.z9h [.imm2 .i64 yss, .fn F.z1r [.pim [iD n, iD s, iD f, .imm2 .i64 xss], .pim [iD m]]] [] ⟨.bool (decide (r1 ≥ (0 : Int))), [], []⟩ :=
  RG zu3 [] [] trivial (PC c2 PN) LN
end Go.PR.S
