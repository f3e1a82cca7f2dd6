/- Path lemmas (written by Vc.lean). -/
import Derived.Test.YtkoednplncfgaaaDoorFwMk
set_option linter.unusedVariables false
set_option linter.unusedSimpArgs false
set_option maxRecDepth 20000
open Go Go.PR Go.Proofs Go.PR.S
namespace Go.PR.S
theorem zlx : X.ft F.z15 = some Tryd.f157 := by kernel_rfl
theorem zly {n a b : Int} {b1 : Bool} (c2 : Runs X F.zq [iD n, iD a, iD b] [] (boolR b1)) : Runs X F.z15 [iD n, .pim [iD a], .pim [iD b]] [] ⟨.bool !b1, [], []⟩ :=
  RG zlx [] [] trivial (PC c2 PN) LN
theorem zi7 : X.ft F.zh = some Tryd.f158 := by kernel_rfl
def z40 (w : List Int) (a b : Int) (t8a : Nat) : LSt := ⟨mkE 19 0 [(0, .immI .i64 w), (1, .fn F.z15 [.pim [iD a], .pim [iD b]]), (7, iD (↑w.length : Int)), (8, iD (↑t8a : Int))], []⟩
def zcw (t4az : Nat) : OutL := .ret ⟨mkE 19 0 [(4, iD (↑t4az : Int))], []⟩
def zcx : OutL := .exit 0 ⟨mkE 19 0 [], []⟩
theorem zv5 {Q : Out → Prop} {w : List Int} {a b : Int} {t8a : Nat} (h1 : (↑t8a : Int) < (↑w.length : Int)) {b2 : Bool} (c3 : Runs X F.z15 [iD (w.getD t8a 0), .pim [iD a], .pim [iD b]] [] (boolR b2)) (h4 : b2 = true) (hq : Q (zcw t8a).out) : wq F.zh 0 Tryd.f158 0 (z40 w a b t8a) Q :=
  RS [true, true] (zcw t8a) [decide ((↑t8a : Int) < (↑w.length : Int)) = true, (0 : Int) ≤ (↑t8a : Int) ∧ (↑t8a : Int) < (↑w.length : Int), b2 = true] (PA (decide_eq_true h1) (PA ⟨(by omega), h1⟩ (PA h4 trivial))) (PC c3 PN) LN hq
theorem zi8 {Q : Out → Prop} {w : List Int} {a b : Int} {t8a : Nat} (h1 : (↑t8a : Int) < (↑w.length : Int)) {b2 : Bool} (c3 : Runs X F.z15 [iD (w.getD t8a 0), .pim [iD a], .pim [iD b]] [] (boolR b2)) (h5 : b2 = false) (h6 : (↑t8a : Int) + (1 : Int) ≤ (9223372036854775807 : Int)) (hq : wq F.zh 0 Tryd.f158 0 (z40 w a b (t8a + 1)) Q) : wq F.zh 0 Tryd.f158 0 (z40 w a b t8a) Q :=
  RS [true, false] (.normal (z40 w a b (t8a + 1))) [decide ((↑t8a : Int) < (↑w.length : Int)) = true, (0 : Int) ≤ (↑t8a : Int) ∧ (↑t8a : Int) < (↑w.length : Int), b2 = false, inR ((↑t8a : Int) + (1 : Int))] (PA (decide_eq_true h1) (PA ⟨(by omega), h1⟩ (PA h5 (PA ⟨(by omega), h6⟩ trivial)))) (PC c3 PN) LN hq
theorem zv6 {Q : Out → Prop} {w : List Int} {a b : Int} {t8a : Nat} (h7 : ¬(↑t8a : Int) < (↑w.length : Int)) (hq : Q (zcx).out) : wq F.zh 0 Tryd.f158 0 (z40 w a b t8a) Q :=
  RS [false] (zcx) [decide ((↑t8a : Int) < (↑w.length : Int)) = false] (PA (decide_eq_false h7) trivial) PN LN hq
theorem zv3 {w : List Int} {a b : Int} {t4az : Nat} (l8 : wl F.zh 0 Tryd.f158 0 (z40 w a b 0) (zcw t4az)) : Runs X F.zh [.immI .i64 w, .fn F.z15 [.pim [iD a], .pim [iD b]]] [] ⟨iD (↑t4az : Int), [], []⟩ :=
  RG zi7 [] [] trivial PN (LC l8 LN)
theorem zv4 {w : List Int} {a b : Int} (l9 : wl F.zh 0 Tryd.f158 0 (z40 w a b 0) zcx) : Runs X F.zh [.immI .i64 w, .fn F.z15 [.pim [iD a], .pim [iD b]]] [] ⟨iD (-1 : Int), [], []⟩ :=
  RG zi7 [] [] trivial PN (LC l9 LN)
theorem zuj : X.ft F.z2w = some Tryd.f116 := by kernel_rfl
theorem zhz {w : List Int} {a b r1 : Int} (c2 : Runs X F.zh [.immI .i64 w, .fn F.z15 [.pim [iD a], .pim [iD b]]] [] (intR r1)) : Runs X F.z2w [.immI .i64 w, .fn F.z15 [.pim [iD a], .pim [iD b]]] [] ⟨.bool (decide (r1 ≥ (0 : Int))), [], []⟩ :=
  RG zuj [] [] trivial (PC c2 PN) LN
theorem zfe : X.ft F.z1j = some Tryd.f117 := by kernel_rfl
theorem znw {r : Int} {b : List Bool} (h1 : r ≥ (0 : Int)) (h2 : r < (↑b.length : Int)) : Runs X F.z1j [iD r, .pim [.immB b]] [] ⟨.bool !b.getD r.toNat false, [], []⟩ :=
  RG zfe [true, true, true, true, true, true] [decide (r ≥ (0 : Int)) = true, decide (r ≥ (0 : Int)) = true, decide (r ≥ (0 : Int)) = true, (0 : Int) ≤ r ∧ r < (↑b.length : Int), decide (r ≥ (0 : Int)) = true, decide (r ≥ (0 : Int)) = true, decide (r ≥ (0 : Int)) = true] (PA (decide_eq_true h1) (PA (decide_eq_true h1) (PA (decide_eq_true h1) (PA ⟨h1, h2⟩ (PA (decide_eq_true h1) (PA (decide_eq_true h1) (PA (decide_eq_true h1) trivial))))))) PN LN
theorem znx {r : Int} {b : List Bool} (h3 : ¬r ≥ (0 : Int)) : Runs X F.z1j [iD r, .pim [.immB b]] [] (boolR false) :=
  RG zfe [false, false, false, false, false, false] [decide (r ≥ (0 : Int)) = false, decide (r ≥ (0 : Int)) = false, decide (r ≥ (0 : Int)) = false, decide (r ≥ (0 : Int)) = false, decide (r ≥ (0 : Int)) = false, decide (r ≥ (0 : Int)) = false] (PA (decide_eq_false h3) (PA (decide_eq_false h3) (PA (decide_eq_false h3) (PA (decide_eq_false h3) (PA (decide_eq_false h3) (PA (decide_eq_false h3) trivial)))))) PN LN
theorem zi9 : X.ft F.zh = some Tryd.f158 := by kernel_rfl
def z41 (w : List Int) (b : List Bool) (t8a : Nat) : LSt := ⟨mkE 19 0 [(0, .immI .i64 w), (1, .fn F.z1j [.pim [.immB b]]), (7, iD (↑w.length : Int)), (8, iD (↑t8a : Int))], []⟩
def zcy (t4az : Nat) : OutL := .ret ⟨mkE 19 0 [(4, iD (↑t4az : Int))], []⟩
def zcz : OutL := .exit 0 ⟨mkE 19 0 [], []⟩
theorem zv9 {Q : Out → Prop} {w : List Int} {b : List Bool} {t8a : Nat} (h1 : (↑t8a : Int) < (↑w.length : Int)) {b2 : Bool} (c3 : Runs X F.z1j [iD (w.getD t8a 0), .pim [.immB b]] [] (boolR b2)) (h4 : b2 = true) (hq : Q (zcy t8a).out) : wq F.zh 0 Tryd.f158 0 (z41 w b t8a) Q :=
  RS [true, true] (zcy t8a) [decide ((↑t8a : Int) < (↑w.length : Int)) = true, (0 : Int) ≤ (↑t8a : Int) ∧ (↑t8a : Int) < (↑w.length : Int), b2 = true] (PA (decide_eq_true h1) (PA ⟨(by omega), h1⟩ (PA h4 trivial))) (PC c3 PN) LN hq
theorem zia {Q : Out → Prop} {w : List Int} {b : List Bool} {t8a : Nat} (h1 : (↑t8a : Int) < (↑w.length : Int)) {b2 : Bool} (c3 : Runs X F.z1j [iD (w.getD t8a 0), .pim [.immB b]] [] (boolR b2)) (h5 : b2 = false) (h6 : (↑t8a : Int) + (1 : Int) ≤ (9223372036854775807 : Int)) (hq : wq F.zh 0 Tryd.f158 0 (z41 w b (t8a + 1)) Q) : wq F.zh 0 Tryd.f158 0 (z41 w b t8a) Q :=
  RS [true, false] (.normal (z41 w b (t8a + 1))) [decide ((↑t8a : Int) < (↑w.length : Int)) = true, (0 : Int) ≤ (↑t8a : Int) ∧ (↑t8a : Int) < (↑w.length : Int), b2 = false, inR ((↑t8a : Int) + (1 : Int))] (PA (decide_eq_true h1) (PA ⟨(by omega), h1⟩ (PA h5 (PA ⟨(by omega), h6⟩ trivial)))) (PC c3 PN) LN hq
theorem zva {Q : Out → Prop} {w : List Int} {b : List Bool} {t8a : Nat} (h7 : ¬(↑t8a : Int) < (↑w.length : Int)) (hq : Q (zcz).out) : wq F.zh 0 Tryd.f158 0 (z41 w b t8a) Q :=
  RS [false] (zcz) [decide ((↑t8a : Int) < (↑w.length : Int)) = false] (PA (decide_eq_false h7) trivial) PN LN hq
theorem zv7 {w : List Int} {b : List Bool} {t4az : Nat} (l8 : wl F.zh 0 Tryd.f158 0 (z41 w b 0) (zcy t4az)) : Runs X F.zh [.immI .i64 w, .fn F.z1j [.pim [.immB b]]] [] ⟨iD (↑t4az : Int), [], []⟩ :=
  RG zi9 [] [] trivial PN (LC l8 LN)
theorem zv8 {w : List Int} {b : List Bool} (l9 : wl F.zh 0 Tryd.f158 0 (z41 w b 0) zcz) : Runs X F.zh [.immI .i64 w, .fn F.z1j [.pim [.immB b]]] [] ⟨iD (-1 : Int), [], []⟩ :=
  RG zi9 [] [] trivial PN (LC l9 LN)
theorem zuk : X.ft F.z2w = some Tryd.f116 := by kernel_rfl
theorem zi0 {w : List Int} {b : List Bool} {r1 : Int} (c2 : Runs X F.zh [.immI .i64 w, .fn F.z1j [.pim [.immB b]]] [] (intR r1)) : Runs X F.z2w [.immI .i64 w, .fn F.z1j [.pim [.immB b]]] [] ⟨.bool (decide (r1 ≥ (0 : Int))), [], []⟩ :=
  RG zuk [] [] trivial (PC c2 PN) LN
theorem zib : X.ft F.z2i = some Tryd.f159 := by kernel_rfl
def z42 (w : List Bool) (b : Bool) (t8a : Nat) : LSt := ⟨mkE 19 0 [(0, .immB w), (1, .bool b), (7, iD (↑w.length : Int)), (8, iD (↑t8a : Int))], []⟩
def zd0 (t4az : Nat) : OutL := .ret ⟨mkE 19 0 [(4, iD (↑t4az : Int))], []⟩
def zd1 : OutL := .exit 0 ⟨mkE 19 0 [], []⟩
theorem zvd {Q : Out → Prop} {w : List Bool} {b : Bool} {t8a : Nat} (h1 : (↑t8a : Int) < (↑w.length : Int)) (h2 : b = w.getD t8a false) (hq : Q (zd0 t8a).out) : wq F.z2i 0 Tryd.f159 0 (z42 w b t8a) Q :=
  RS [true, true] (zd0 t8a) [decide ((↑t8a : Int) < (↑w.length : Int)) = true, (0 : Int) ≤ (↑t8a : Int) ∧ (↑t8a : Int) < (↑w.length : Int), (b == w.getD t8a false) = true] (PA (decide_eq_true h1) (PA ⟨(by omega), h1⟩ (PA (beq_iff_eq.2 h2) trivial))) PN LN hq
theorem zic {Q : Out → Prop} {w : List Bool} {b : Bool} {t8a : Nat} (h1 : (↑t8a : Int) < (↑w.length : Int)) (h3 : ¬b = w.getD t8a false) (h4 : (↑t8a : Int) + (1 : Int) ≤ (9223372036854775807 : Int)) (hq : wq F.z2i 0 Tryd.f159 0 (z42 w b (t8a + 1)) Q) : wq F.z2i 0 Tryd.f159 0 (z42 w b t8a) Q :=
  RS [true, false] (.normal (z42 w b (t8a + 1))) [decide ((↑t8a : Int) < (↑w.length : Int)) = true, (0 : Int) ≤ (↑t8a : Int) ∧ (↑t8a : Int) < (↑w.length : Int), (b == w.getD t8a false) = false, inR ((↑t8a : Int) + (1 : Int))] (PA (decide_eq_true h1) (PA ⟨(by omega), h1⟩ (PA (beq_false_of_ne h3) (PA ⟨(by omega), h4⟩ trivial)))) PN LN hq
theorem zve {Q : Out → Prop} {w : List Bool} {b : Bool} {t8a : Nat} (h5 : ¬(↑t8a : Int) < (↑w.length : Int)) (hq : Q (zd1).out) : wq F.z2i 0 Tryd.f159 0 (z42 w b t8a) Q :=
  RS [false] (zd1) [decide ((↑t8a : Int) < (↑w.length : Int)) = false] (PA (decide_eq_false h5) trivial) PN LN hq
theorem zvb {w : List Bool} {b : Bool} {t4az : Nat} (l6 : wl F.z2i 0 Tryd.f159 0 (z42 w b 0) (zd0 t4az)) : Runs X F.z2i [.immB w, .bool b] [] ⟨iD (↑t4az : Int), [], []⟩ :=
  RG zib [] [] trivial PN (LC l6 LN)
theorem zvc {w : List Bool} {b : Bool} (l7 : wl F.z2i 0 Tryd.f159 0 (z42 w b 0) zd1) : Runs X F.z2i [.immB w, .bool b] [] ⟨iD (-1 : Int), [], []⟩ :=
  RG zib [] [] trivial PN (LC l7 LN)
theorem zul : X.ft F.z9p = some Tryd.f118 := by kernel_rfl
theorem zi1 {w : List Bool} {b : Bool} {r1 : Int} (c2 : Runs X F.z2i [.immB w, .bool b] [] (intR r1)) : Runs X F.z9p [.immB w, .bool b] [] ⟨.bool (decide (r1 ≥ (0 : Int))), [], []⟩ :=
  RG zul [] [] trivial (PC c2 PN) LN
theorem zf5 : X.ft F.z1o = some Tryd.f112 := by kernel_rfl
theorem zlk {n s : Int} {f m : Int} {xss : List (List Int)} {row : List Int} (h1 : ¬(↑row.length : Int) = n) : Runs X F.z1o [.immI .i64 row, .pim [iD n, iD s, iD f, .imm2 .i64 xss], .pim [iD m]] [] (boolR true) :=
  RG zf5 [true, true, true, true, true, true] [((↑row.length : Int) != n) = true, ((↑row.length : Int) != n) = true, ((↑row.length : Int) != n) = true, ((↑row.length : Int) != n) = true, ((↑row.length : Int) != n) = true, ((↑row.length : Int) != n) = true] (PA (bne_iff_ne.2 h1) (PA (bne_iff_ne.2 h1) (PA (bne_iff_ne.2 h1) (PA (bne_iff_ne.2 h1) (PA (bne_iff_ne.2 h1) (PA (bne_iff_ne.2 h1) trivial)))))) (PC (Runs.path (by kernel_rfl) (by kernel_rfl) (show fnV X F.z4x Tryd.f113 [.immI .i64 row] [] ⟨[], [], []⟩ = .ok (⟨iD (↑row.length : Int), [], []⟩) ⟨[], [], []⟩ ⟨[], [], []⟩ by kernel_rfl) trivial trivial trivial) PN) LN
theorem zll {n s : Int} {f m : Int} {xss : List (List Int)} {row : List Int} (h2 : (↑row.length : Int) = n) (h3 : (-9223372036854775808 : Int) ≤ m - (1 : Int)) (h4 : m - (1 : Int) ≤ (9223372036854775807 : Int)) {b5 : Bool} (c6 : Runs X F.z2c [.immI .i64 row, iD (-1 : Int), iD (m - (1 : Int))] [] (boolR b5)) : Runs X F.z1o [.immI .i64 row, .pim [iD n, iD s, iD f, .imm2 .i64 xss], .pim [iD m]] [] ⟨.bool !b5, [], []⟩ :=
  RG zf5 [false, false, false, false, false, false] [((↑row.length : Int) != n) = false, ((↑row.length : Int) != n) = false, ((↑row.length : Int) != n) = false, inR (m - (1 : Int)), ((↑row.length : Int) != n) = false, ((↑row.length : Int) != n) = false, ((↑row.length : Int) != n) = false] (PA (bne_eq_false_iff_eq.2 h2) (PA (bne_eq_false_iff_eq.2 h2) (PA (bne_eq_false_iff_eq.2 h2) (PA ⟨h3, h4⟩ (PA (bne_eq_false_iff_eq.2 h2) (PA (bne_eq_false_iff_eq.2 h2) (PA (bne_eq_false_iff_eq.2 h2) trivial))))))) (PC (Runs.path (by kernel_rfl) (by kernel_rfl) (show fnV X F.z4x Tryd.f113 [.immI .i64 row] [] ⟨[], [], []⟩ = .ok (⟨iD (↑row.length : Int), [], []⟩) ⟨[], [], []⟩ ⟨[], [], []⟩ by kernel_rfl) trivial trivial trivial) (PC c6 PN)) LN
theorem zi2 : X.ft F.z2h = some Tryd.f156 := by kernel_rfl
def z3x (n s : Int) (f m : Int) (xss yss : List (List Int)) (t8a : Nat) : LSt := ⟨mkE 19 0 [(0, .imm2 .i64 yss), (1, .fn F.z1o [.pim [iD n, iD s, iD f, .imm2 .i64 xss], .pim [iD m]]), (7, iD (↑yss.length : Int)), (8, iD (↑t8a : Int))], []⟩
def zcp (t4az : Nat) : OutL := .ret ⟨mkE 19 0 [(4, iD (↑t4az : Int))], []⟩
def zcq : OutL := .exit 0 ⟨mkE 19 0 [], []⟩
theorem zuo {Q : Out → Prop} {n s : Int} {f m : Int} {xss yss : List (List Int)} {t8a : Nat} (h1 : (↑t8a : Int) < (↑yss.length : Int)) {b2 : Bool} (c3 : Runs X F.z1o [.immI .i64 (yss.getD t8a []), .pim [iD n, iD s, iD f, .imm2 .i64 xss], .pim [iD m]] [] (boolR b2)) (h4 : b2 = true) (hq : Q (zcp t8a).out) : wq F.z2h 0 Tryd.f156 0 (z3x n s f m xss yss t8a) Q :=
  RS [true, true] (zcp t8a) [decide ((↑t8a : Int) < (↑yss.length : Int)) = true, (0 : Int) ≤ (↑t8a : Int) ∧ (↑t8a : Int) < (↑yss.length : Int), b2 = true] (PA (decide_eq_true h1) (PA ⟨(by omega), h1⟩ (PA h4 trivial))) (PC c3 PN) LN hq
theorem zi3 {Q : Out → Prop} {n s : Int} {f m : Int} {xss yss : List (List Int)} {t8a : Nat} (h1 : (↑t8a : Int) < (↑yss.length : Int)) {b2 : Bool} (c3 : Runs X F.z1o [.immI .i64 (yss.getD t8a []), .pim [iD n, iD s, iD f, .imm2 .i64 xss], .pim [iD m]] [] (boolR b2)) (h5 : b2 = false) (h6 : (↑t8a : Int) + (1 : Int) ≤ (9223372036854775807 : Int)) (hq : wq F.z2h 0 Tryd.f156 0 (z3x n s f m xss yss (t8a + 1)) Q) : wq F.z2h 0 Tryd.f156 0 (z3x n s f m xss yss t8a) Q :=
  RS [true, false] (.normal (z3x n s f m xss yss (t8a + 1))) [decide ((↑t8a : Int) < (↑yss.length : Int)) = true, (0 : Int) ≤ (↑t8a : Int) ∧ (↑t8a : Int) < (↑yss.length : Int), b2 = false, inR ((↑t8a : Int) + (1 : Int))] (PA (decide_eq_true h1) (PA ⟨(by omega), h1⟩ (PA h5 (PA ⟨(by omega), h6⟩ trivial)))) (PC c3 PN) LN hq
theorem zup {Q : Out → Prop} {n s : Int} {f m : Int} {xss yss : List (List Int)} {t8a : Nat} (h7 : ¬(↑t8a : Int) < (↑yss.length : Int)) (hq : Q (zcq).out) : wq F.z2h 0 Tryd.f156 0 (z3x n s f m xss yss t8a) Q :=
  RS [false] (zcq) [decide ((↑t8a : Int) < (↑yss.length : Int)) = false] (PA (decide_eq_false h7) trivial) PN LN hq
theorem zum {n s : Int} {f m : Int} {xss yss : List (List Int)} {t4az : Nat} (l8 : wl F.z2h 0 Tryd.f156 0 (z3x n s f m xss yss 0) (zcp t4az)) : Runs X F.z2h [.imm2 .i64 yss, .fn F.z1o [.pim [iD n, iD s, iD f, .imm2 .i64 xss], .pim [iD m]]] [] ⟨iD (↑t4az : Int), [], []⟩ :=
  RG zi2 [] [] trivial PN (LC l8 LN)
theorem zun {n s : Int} {f m : Int} {xss yss : List (List Int)} (l9 : wl F.z2h 0 Tryd.f156 0 (z3x n s f m xss yss 0) zcq) : Runs X F.z2h [.imm2 .i64 yss, .fn F.z1o [.pim [iD n, iD s, iD f, .imm2 .i64 xss], .pim [iD m]]] [] ⟨iD (-1 : Int), [], []⟩ :=
  RG zi2 [] [] trivial PN (LC l9 LN)
theorem zue : X.ft F.z9o = some Tryd.f111 := by kernel_rfl
theorem zhw {n s : Int} {f m : Int} {xss yss : List (List Int)} {r1 : Int} (c2 : Runs X F.z2h [.imm2 .i64 yss, .fn F.z1o [.pim [iD n, iD s, iD f, .imm2 .i64 xss], .pim [iD m]]] [] (intR r1)) : Runs X F.z9o [.imm2 .i64 yss, .fn F.z1o [.pim [iD n, iD s, iD f, .imm2 .i64 xss], .pim [iD m]]] [] ⟨.bool (decide (r1 ≥ (0 : Int))), [], []⟩ :=
  RG zue [] [] trivial (PC c2 PN) LN
end Go.PR.S
